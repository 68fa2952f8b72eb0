/- What the law HopSettles stands on: the framework, the given functions as plain functions, their walks, and the plain laws; part 3. -/
import Derived.Test.YteecjdpicjpnfaaHopSettlesZ2
set_option linter.unusedSimpArgs false
set_option linter.unusedVariables false
namespace Go.Abs
open Go Go.RowKit
section bundles
variable {β : Type} (sh : Nat → Nat → β → OL)
variable {sh}
theorem PC {k : Int} {x : β} : ∀ {los : List (Nat × Nat)} {m : List (Int × β)}, los.length = m.length → fE m k = some x →
    ∃ a b R, fE (pmM los m) k = some (some a) ∧ (pmL sh los m).Perm (sh a b x ++ R) ∧ Put sh m k a (pmM los m) R
  | [], [], _, h => by cases h
  | [], _ :: _, h, _ => by simp at h
  | _ :: _, [], h, _ => by simp at h
  | q :: los, p :: m, hl, h => by
    rw [fE] at h
    by_cases hk : p.1 = k
    · rw [if_pos hk] at h
      cases h
      refine ⟨q.1, q.2, pmL sh los m, by rw [pmM, fE, if_pos hk], List.Perm.refl _, fun b' p' => ⟨(q.1, b') :: los, ?_, ?_, ?_⟩⟩
      · simp only [gP, if_pos hk]; simpa using hl
      · simp only [gP, if_pos hk]; simp only [pmM, hk]
      · simp only [gP, if_pos hk, pmL]; exact List.Perm.refl _
    · rw [if_neg hk] at h
      obtain ⟨a, b, R, h1, h2, h3⟩ := PC (los := los) (m := m) (by simpa using hl) h
      refine ⟨a, b, sh q.1 q.2 p.2 ++ R, by rw [pmM, fE, if_neg hk, h1], ?_, fun b' p' => ?_⟩
      · rw [pmL]
        refine (List.Perm.append_left _ h2).trans ?_
        rw [← List.append_assoc, ← List.append_assoc]
        exact List.Perm.append_right _ List.perm_append_comm
      · obtain ⟨los', e1, e2, e3⟩ := h3 b' p'
        refine ⟨q :: los', ?_, ?_, ?_⟩
        · simp only [gP, if_neg hk, List.length_cons, e1]
        · simp only [gP, if_neg hk, pmM, e2]
        · simp only [gP, if_neg hk, pmL]
          refine List.Perm.trans ?_ (List.Perm.append_left _ e3)
          rw [← List.append_assoc, ← List.append_assoc]
          exact List.Perm.append_right _ List.perm_append_comm

theorem ZD {k : Int} {a : Nat} : ∀ {los : List (Nat × Nat)} {m : List (Int × β)}, los.length = m.length → fE m k = none → Put sh m k a (gP (pmM los m) k (some a)) (pmL sh los m)
  | [], [], _, _ => fun b' p' => ⟨[(a, b')], rfl, rfl, by simp [gP, pmL]⟩
  | [], _ :: _, h, _ => by simp at h
  | _ :: _, [], h, _ => by simp at h
  | q :: los, p :: m, hl, h => by
    rw [fE] at h
    split at h
    · cases h
    · rename_i hk
      intro b' p'
      obtain ⟨los', e1, e2, e3⟩ := ZD (a := a) (los := los) (m := m) (by simpa using hl) h b' p'
      refine ⟨q :: los', ?_, ?_, ?_⟩
      · simp only [gP, if_neg hk, List.length_cons, e1]
      · simp only [pmM, gP, if_neg hk, e2]
      · simp only [gP, if_neg hk, pmL]
        refine List.Perm.trans ?_ (List.Perm.append_left _ e3)
        rw [← List.append_assoc, ← List.append_assoc]
        exact List.Perm.append_right _ List.perm_append_comm

theorem xQ (A B : OL) : up (A ++ B) = up A ++ up B := by simp [up]

theorem aK.aA7 {H0 : aQ} {E : List Nat} {G : Gs} {H : aQ} {L R : OL} (h : aK ⟨H0, E, up R ++ G⟩ H L) : aK ⟨H0, E, G⟩ H (R ++ L) := by
  have h1 : aK ⟨H0, E, G⟩ H (L ++ R) := aK.glue (F := ⟨H0, E, G⟩) h
  have h2 := h1.CE
  exact (h2.nT (G' := up (R ++ L) ++ G) (List.Perm.append_right _ (by rw [xQ, xQ]; exact List.perm_append_comm))).take

theorem aK.aA5 {H0 : aQ} {E : List Nat} {G : Gs} {H : aQ} {L R : OL} (h : aK ⟨H0, E, G⟩ H (R ++ L)) : aK ⟨H0, E, up R ++ G⟩ H L := by
  have h2 := h.CE
  have h3 : aK ⟨H0, E, G⟩ H (L ++ R) := (h2.nT (G' := up (L ++ R) ++ G) (List.Perm.append_right _ (by rw [xQ, xQ]; exact List.perm_append_comm))).take
  exact aK.part (F := ⟨H0, E, G⟩) h3

theorem aK.UO {H0 : aQ} {E : List Nat} {H : aQ} {L : OL} : ∀ {G : Gs}, aK ⟨H0, E, G⟩ H L → aK ⟨H0, E, []⟩ H L
  | [], h => h
  | _ :: _, h => aK.UO h.nS

theorem aK.focus {H0 : aQ} {E : List Nat} {G : Gs} {H : aQ} {L : OL} {lm : Nat} {los : List (Nat × Nat)} {m : List (Int × β)} {k : Int} {x : β} (h : aK ⟨H0, E, pmG sh lm los m ++ G⟩ H L) (hl : los.length = m.length) (hg : fE m k = some x) :
    ∃ a b R, fE (pmM los m) k = some (some a) ∧ Put sh m k a (pmM los m) R ∧ aK ⟨H0, E, (lm, pJ pU (pmM los m)) :: (up R ++ G)⟩ H (sh a b x ++ L) := by
  obtain ⟨a, b, R, h1, h2, h3⟩ := PC (sh := sh) hl hg
  refine ⟨a, b, R, h1, h3, ?_⟩
  have : (pmG sh lm los m ++ G).Perm (up (sh a b x) ++ ((lm, pJ pU (pmM los m)) :: (up R ++ G))) := by
    unfold pmG
    refine List.Perm.trans ?_ List.perm_middle.symm
    refine List.Perm.cons _ ?_
    rw [← List.append_assoc, ← xQ]
    exact List.Perm.append_right _ (h2.map _)
  exact (h.nT this).aA7

theorem aK.TQ {H0 : aQ} {E : List Nat} {G : Gs} {H : aQ} {L R : OL} {lm a b : Nat} {MM : List (Int × Option Nat)} {m : List (Int × β)} {k : Int} {x : β} (h : aK ⟨H0, E, (lm, pJ pU MM) :: (up R ++ G)⟩ H (sh a b x ++ L)) (hp : Put sh m k a MM R) :
    ∃ los', los'.length = (gP m k x).length ∧ aK ⟨H0, E, pmG sh lm los' (gP m k x) ++ G⟩ H L := by
  obtain ⟨los', e1, e2, e3⟩ := hp b x
  refine ⟨los', e1, ?_⟩
  have h1 := h.aA5
  refine h1.nT ?_
  unfold pmG
  refine List.perm_middle.trans ?_
  rw [e2]
  refine List.Perm.cons _ ?_
  rw [← List.append_assoc, ← xQ]
  exact List.Perm.append_right _ (e3.map _)

theorem FZ {P : Program} {ro : Option Nat} {N : Nat} {c : Code} {T : Env} {ds : List Nat} {Q : Exit → Env → aQ → List Nat → Prop} {α : Type} [Inhabited α] {H0 : aQ} {E : List Nat} (k k2 j : Nat) (cs : Nat → β → List V) (rows : β → List α) (e : α → V) (sf : β → V)
    (hsh : ∀ a b p, sh a b p = [(a, k, [.agg (cs b p)]), (b, k2, (rows p).map e)]) (hj : ∀ b p, (cs b p)[j]? = some (.msl k2 b 0 (rows p).length)) (hsf : ∀ b p, V.agg ((cs b p).set j (eL e (rows p))) = sf p) :
    ∀ (m : List (Int × β)) (los : List (Nat × Nat)) {G : Gs} {H : aQ} {L : OL}, los.length = m.length → aK ⟨H0, E, up (pmL sh los m) ++ G⟩ H L →
      (∀ H', aK ⟨H0, E, up (pmL (fun a _ p => [(a, k, [sf p])]) los m) ++ G⟩ H' L → AWP P ro N c T H' ds Q) → AWP P ro N c T H ds Q
  | [], [], G, H, L, _, hO, h => h H hO
  | [], _ :: _, _, _, _, hl, _, _ => by simp at hl
  | _ :: _, [], _, _, _, hl, _, _ => by simp at hl
  | p :: m, q :: los, G, H, L, hl, hO, h => by
    rw [pmL, xQ, List.append_assoc] at hO
    have h1 := hO.aA7
    rw [hsh] at h1
    refine SU (e := e) (rows p.2) 0 1 k k2 q.1 q.2 (rows p.2).length j (cs q.2 p.2) ((q.1, k, [sf p.2]) :: L) h1 rfl (hj _ _) rfl rfl rfl (by rw [← hsf q.2 p.2]; rfl) fun H' hO' => ?_
    have h2 := aK.aA5 (R := [(q.1, k, [sf p.2])]) (L := L) hO'
    have h3 : aK ⟨H0, E, up (pmL sh los m) ++ (up [(q.1, k, [sf p.2])] ++ G)⟩ H' L := h2.nT (by
      rw [← List.append_assoc, ← List.append_assoc]; exact List.Perm.append_right _ List.perm_append_comm)
    refine FZ k k2 j cs rows e sf hsh hj hsf m los (by simpa using hl) h3 fun H'' hO'' => h H'' ?_
    refine hO''.nT ?_
    rw [pmL, xQ, ← List.append_assoc]
    exact List.Perm.append_right _ List.perm_append_comm

end bundles
def aAg : V → Option Bool
  | .lit (.pointer none) => some true
  | .lp _ _ _ => some false
  | _ => none

section nils
variable {P : Program} {tt : TT} {N : Nat} {T : Env} {H : aQ} {ops : Array Oper} {K : Env → aQ → Prop} {i n : Nat}
theorem QI {K : V → aQ → Prop} {op : BinOp} {t e u : TypeId} {x y : Operand} {z : V} {b : Bool} (hop : op = .eql ∨ op = .neq) (hu : P.underlying t = some (.pointer e)) (hz : aAg z = some b) (h : K (.lit (.bool (if op = .eql then b else !b))) H) : wL P (.binOp op t x y u) [z, .lit (.pointer none)] H K := by
  intro ro o a g w next R ho hs hx hn
  have r1 := hx.2 0 z (a.eval x) rfl (by simp [Op.operands])
  have r2 := hx.2 1 (.lit (.pointer none)) (a.eval y) rfl (by simp [Op.operands])
  have e2 : a.eval y = .pointer none := r2.kV
  have e1 : ∃ ad, a.eval x = .pointer ad ∧ ad.isNone = b := by
    unfold aAg at hz
    split at hz
    · simp at hz; subst hz; exact ⟨none, r1.kV, rfl⟩
    · simp at hz; subst hz; obtain ⟨_, h2⟩ := r1.lpE; exact ⟨_, h2, rfl⟩
    · cases hz
  obtain ⟨ad, e1, e3⟩ := e1
  have hq : (Op.equal t (.pointer ad) (.pointer none)).run P w = .ok b w := by
    unfold Op.equal Op.maxDepth
    unfold Op.equalIn
    simp only [Sem.run_bind, run_underlying hu, Result.andThen]
    cases ad with
    | none => subst e3; rfl
    | some ad => subst e3; rfl
  have hr : (execOp a.eval o).run P w = .ok (.value (.bool (if op = .eql then b else !b))) w := by
    cases o
    simp only at ho
    subst ho
    rcases hop with rfl | rfl
    · have h1 : (eqGuard .eql t x y (.pointer ad) (.pointer none)).run P w = .ok () w := rfl
      have h2 : (binOp .eql t (.pointer ad) (.pointer none)).run P w = .ok (.bool b) w := by
        simp only [binOp, Sem.run_bind, hq, Result.andThen]; rfl
      simp [execOp, e1, e2, h1, h2, Result.andThen]
    · have h1 : (eqGuard .neq t x y (.pointer ad) (.pointer none)).run P w = .ok () w := rfl
      have h2 : (binOp .neq t (.pointer ad) (.pointer none)).run P w = .ok (.bool (!b)) w := by
        simp only [binOp, Sem.run_bind, hq, Result.andThen]; rfl
      simp [execOp, e1, e2, h1, h2, Result.andThen]
  exact eC (fun c e => by rw [e] at ho; cases ho) hr (hn _ _ _ _ _ h hs (.lit _ rfl) (Ext.refl g w))

def aAY (P : Program) (t : TypeId) : Bool := match P.underlying t with
  | some (.pointer _) => true
  | _ => false

def ZA (P : Program) (N : Nat) (ops : Array Oper) (T : Env) (i : Nat) : Option Bool := match gG N ops i with
  | some (.binOp op t x y _) => match aAY P t, cA T [] x, cA T [] y with
    | true, some z, some (.lit (.pointer none)) => match aAg z, op with
      | some b, .eql => some b
      | some b, .neq => some (!b)
      | _, _ => none
    | _, _, _ => none
  | _ => none

theorem PN (b : Bool) (h : RWs P tt N ops (aJ (i + 1) n) (T.bP (cI ops i) ([], .lit (.bool b))) H K)
    (hs : aJ i n = i :: aJ (i + 1) n := by kernel_rfl) (hd : ZA P N ops T i = some b := by kernel_rfl) : RWs P tt N ops (aJ i n) T H K := by
  unfold ZA at hd
  split at hd
  · rename_i op t x y u hp
    split at hd
    · rename_i z hi hx hy
      unfold aAY at hi
      split at hi
      · rename_i e hu
        split at hd
        · rename_i b' hz
          simp at hd; subst hd
          exact tZ hs hp (xs := [z, .lit (.pointer none)]) (by simp [Op.operands, gW, hx, hy]) (QI (.inl rfl) hu hz (by simpa using h))
        · rename_i b' hz
          simp at hd; subst hd
          exact tZ hs hp (xs := [z, .lit (.pointer none)]) (by simp [Op.operands, gW, hx, hy]) (QI (.inr rfl) hu hz (by simpa using h))
        · cases hd
      · cases hi
    · cases hd
  · cases hd

end nils
theorem SR.aBj {g : Gh} {w : World} {H : aQ} (h : SR g w H) {l : Nat} {s s' : Sp} (hl : H[l]? = some (.raw s)) (hs : ∀ g w b o, s.p g w b o → s'.p g w b o) : SR g w (H.set l (.raw s')) := by
  have hlt : l < H.length := (List.getElem?_eq_some_iff.1 hl).1
  have hat : ∀ l' ob, (H.set l (.raw s'))[l']? = some ob → (l' = l ∧ ob = .raw s') ∨ (l' ≠ l ∧ H[l']? = some ob) := by
    intro l' ob hl'
    rw [List.getElem?_set] at hl'
    split at hl'
    · rename_i heq
      simp [heq ▸ hlt] at hl'
      exact .inl ⟨heq.symm, hl'.symm⟩
    · rename_i hne; exact .inr ⟨fun e => hne e.symm, hl'⟩
  refine { len := by simp [h.len], fxc := h.fxc, nt := ?_, kk := ?_, vec := ?_, raw := ?_, disj := ?_, rawd := ?_ }
  · intro l' k1 es1 hl1
    rcases hat _ _ hl1 with ⟨_, he⟩ | ⟨_, hl2⟩
    · cases he
    · exact h.nt l' k1 es1 hl2
  · intro l' k1 es1 hl1
    rcases hat _ _ hl1 with ⟨_, he⟩ | ⟨_, hl2⟩
    · cases he
    · exact h.kk l' k1 es1 hl2
  · intro l' k1 es1 hl1
    rcases hat _ _ hl1 with ⟨_, he⟩ | ⟨_, hl2⟩
    · cases he
    · exact h.vec l' k1 es1 hl2
  · intro l' s1 hl1
    rcases hat _ _ hl1 with ⟨rfl, he⟩ | ⟨_, hl2⟩
    · cases he
      obtain ⟨o, q1, q2, q3⟩ := h.raw l' _ hl
      exact ⟨o, q1, q2, hs _ _ _ _ q3⟩
    · exact h.raw l' s1 hl2
  · intro a b k1 k2 es1 es2 ha hb2 hne
    rcases hat _ _ ha with ⟨_, he⟩ | ⟨_, ha2⟩
    · cases he
    · rcases hat _ _ hb2 with ⟨_, he⟩ | ⟨_, hb3⟩
      · cases he
      · exact h.disj _ _ _ _ _ _ ha2 hb3 hne
  · intro a b s1 s2 ha hb2 hne
    rcases hat _ _ ha with ⟨rfl, _⟩ | ⟨_, ha2⟩ <;> rcases hat _ _ hb2 with ⟨rfl, _⟩ | ⟨_, hb3⟩
    · exact absurd rfl hne
    · exact h.rawd _ _ _ _ hl hb3 hne
    · exact h.rawd _ _ _ _ ha2 hl hne
    · exact h.rawd _ _ _ _ ha2 hb3 hne

theorem YQ {N : Nat} {Q : Exit → Env → aQ → List Nat → Prop} {ds : List Nat} {e : Exit} {T : Env} {H H0 : aQ} {E : List Nat} {G : Gs} {L : OL} {β : Type} {f : β → V} {m : List (Int × β)} {bs : List Nat} {l clock : Nat} (hO : aK ⟨H0, E, (l, DV f m bs clock) :: G⟩ H L)
    (h : ∀ H', aK ⟨H0, E, (l, pJ f m) :: G⟩ H' L → Cl N Q e T H' ds) : Cl N Q e T H ds :=
  yR (fun g w _ _ hg => ⟨g, ⟨hg.sr.aBj (hO.gm 0 _ rfl).2 (s' := zF dI (qJ f m)) fun _ _ _ _ ⟨es, h1, _, h3, h4, h5⟩ => ⟨es, clock, h1, h3, h4, h5⟩, hg.tr, hg.df, hg.dl, hg.sz⟩, Ext.refl g w⟩) (h _ (hO.mW _))

theorem JQ {S β : Type} (g : S → Int → Option S) : ∀ (q : List (Int × β)) (s : S), dH (fun s (x : Int × β) => g s x.1) s q = dH g s (q.map (·.1))
  | [], _ => rfl
  | x :: q, s => by
    simp only [dH, List.map_cons]
    cases g s x.1 with
    | none => rfl
    | some s' => exact JQ g q s'

theorem NY {β : Type} : ∀ {los : List (Nat × Nat)} {m : List (Int × β)}, los.length = m.length → (pmM los m).map (·.1) = m.map (·.1)
  | [], [], _ => rfl
  | _ :: _, _ :: _, h => by simp only [pmM, List.map_cons]; rw [NY (by simpa using h)]
  | [], _ :: _, h => by simp at h
  | _ :: _, [], h => by simp at h

theorem aBs {S R β : Type} {g : S → Int → Option S} {after : S → Option R} {s : S} {r : R} {los : List (Nat × Nat)} {m : List (Int × β)} (hl : los.length = m.length) (h : sG (m.map (·.1)) (fun q => (dH g s q).bind after) = some r) :
    sG (pmM los m) (fun q => (dH (fun s (x : Int × Option Nat) => g s x.1) s q).bind after) = some r :=
  LQ fun q hq => by
    rw [JQ]
    exact LV h _ (by rw [← NY hl]; exact hq.map _)

theorem MT {β : Type} {k : Int} {x : β} : ∀ {m : List (Int × β)}, fE m k = some x → gP m k x = m
  | [], h => by cases h
  | p :: m, h => by
    rw [fE] at h
    by_cases hk : p.1 = k
    · rw [if_pos hk] at h; cases h
      rw [gP, if_pos hk, ← hk]
    · rw [if_neg hk] at h
      simp only [gP, if_neg hk, MT h]

end Go.Abs
namespace Go.Abs
open Go
structure bJ where
  From : Int
  To : Int
  deriving Inhabited, DecidableEq

def JW (x : bJ) : List V := [(cQ .i64 x.From)] ++ [(cQ .i64 x.To)]

def bW (x : bJ) : V := .agg (JW x)

structure aE where
  Kind : Int
  Num : Int
  Text : ByteArray
  deriving Inhabited, DecidableEq

def FY (x : aE) : List V := [(cQ .i64 x.Kind)] ++ [(cQ .i64 x.Num)] ++ [(wT x.Text)]

def aI (x : aE) : V := .agg (FY x)

structure aM where
  Row : (List aE)
  At : Int
  Net : Int
  deriving Inhabited, DecidableEq

def IK (x : aM) : List V := [(eL aI x.Row)] ++ [(cQ .i64 x.At)] ++ [(cQ .i64 x.Net)]

def aL (x : aM) : V := .agg (IK x)

structure dQ where
  Row : (List aE)
  N : Int
  deriving Inhabited, DecidableEq

def UK (x : dQ) : List V := [(eL aI x.Row)] ++ [(cQ .i64 x.N)]

def cN (x : dQ) : V := .agg (UK x)

structure aS where
  Span : bJ
  Rows : (List dQ)
  deriving Inhabited, DecidableEq

def UB (x : aS) : List V := JW x.Span ++ [(eL cN x.Rows)]

def aR (x : aS) : V := .agg (UB x)

structure aB where
  At : Int
  Net : Int
  deriving Inhabited, DecidableEq

def VS (x : aB) : List V := [(cQ .i64 x.At)] ++ [(cQ .i64 x.Net)]

def aF (x : aB) : V := .agg (VS x)

inductive bG where
  | none_
  | k_number (x : Int)
  | k_words (x : ByteArray)
  deriving DecidableEq

instance : Inhabited bG := ⟨.none_⟩

def bC : bG → V
  | .none_ => .lit .nilIface
  | .k_number x => .ifc 134 (cQ .i64 x)
  | .k_words x => .ifc 138 (wT x)

noncomputable def qE (iP : Int) (hop1 : Int) : Option Bool :=
  some ((((decide ((1 : Int) ≤ iP)) && (decide (iP ≤ (1099511627776 : Int)))) && (decide ((1 : Int) ≤ hop1))) && (decide (hop1 ≤ (1099511627776 : Int))))

noncomputable def mT (t0 : Int) : Option Bool :=
  some ((decide ((0 : Int) ≤ t0)) && (decide (t0 ≤ (1125899906842624 : Int))))

noncomputable def sZ (q7 : Int) (r8 : Int) : Option (Int × Int × Int) :=
  some (q7, r8, (0 : Int))

noncomputable def uB (a0 : Int) (b1 : Int) : Option (Int × Int × Int) :=
  cond (decide (b1 < (1 : Int)))
  (some ((0 : Int), (0 : Int), (2 : Int)))
  (bD (b1 ≠ 0) <|
  bD (b1 ≠ 0) <|
  cond (decide ((Int.tmod a0 b1) < (0 : Int)))
  (sZ (IntKind.i64.wrap ((IntKind.i64.wrap (Int.tdiv a0 b1)) - (1 : Int))) (IntKind.i64.wrap ((Int.tmod a0 b1) + b1)))
  (sZ (IntKind.i64.wrap (Int.tdiv a0 b1)) (Int.tmod a0 b1)))

noncomputable def oF (hop0 : Int) (n1 : Int) : Option Int :=
  cond (decide (n1 < (0 : Int)))
  (some (0 : Int))
  ((uB n1 hop0).bind fun x2 =>
  some (IntKind.i64.wrap ((IntKind.i64.wrap (x2.1 + (1 : Int))) * hop0)))

noncomputable def vW (iP : Int) (hop1 : Int) (t2 : Int) : Option (Int × Int) :=
  (qE iP hop1).bind fun x1 =>
  cond (!x1)
  (some ((0 : Int), (2 : Int)))
  ((mT t2).bind fun x5 =>
  cond (!x5)
  (some ((0 : Int), (13 : Int)))
  (cond (decide (t2 = (1125899906842624 : Int)))
  (some ((1125899906842624 : Int), (0 : Int)))
  ((oF hop1 (IntKind.i64.wrap (t2 - iP))).bind fun x10 =>
  some (if (1125899906842624 : Int) < x10 then (1125899906842624 : Int) else x10, (0 : Int)))))

noncomputable def pV (iP : Int) (hop1 : Int) (s2 : bJ) (iH : Int) (eY : Int) : Option ((Int × bJ × Int × Int × Int)) :=
  some (hop1, s2, iP, iH, eY)

noncomputable def jA {σ : Type} (cJ : σ → Int → Option (σ × Bool)) (t1 : Int) (t2 : bJ) (t5 : Int) (sg : σ) (t8 : Int) : Option ((σ × Int) ⊕ (σ ⊕ σ)) :=
  cond (decide (t8 < (if (1125899906842624 : Int) < (if t5 < t2.To then t5 else t2.To) then (1125899906842624 : Int) else (if t5 < t2.To then t5 else t2.To))))
  ((cJ sg t8).bind fun x8 =>
  cond (!x8.2)
  (some (.inr (.inr x8.1)))
  (some (.inl (x8.1, IntKind.i64.wrap (t8 + t1)))))
  (some (.inr (.inl sg)))

noncomputable def nN {σ : Type} (cJ : σ → Int → Option (σ × Bool)) (sg : σ) (t1 : Int) (t2 : bJ) (t5 : Int) (t8 : Int) : Option σ :=
  (lp (fun s => jA cJ t1 t2 t5 s.1 s.2) (sg, t8)).bind (Sum.elim (fun rr => some rr) (fun rr => some rr))

noncomputable def mL {σ : Type} (cJ : σ → Int → Option (σ × Bool)) (t1 : Int) (t2 : bJ) (t3 : Int) (t4 : Int) (t5 : Int) (sg0 : σ) : Option σ :=
  (oF t1 (IntKind.i64.wrap (t2.From - t3))).bind fun x1 =>
  (oF t1 (IntKind.i64.wrap (t4 - (1 : Int)))).bind fun x4 =>
  nN cJ sg0 t1 t2 t5 (if x4 > x1 then x4 else x1)

noncomputable def lG (tH : Int) (tO : bJ) (tF : Int) (tG : Int) (tE : Int) (t10 : (List Int)) (t11 : Int) (iF : List Int) (t51 : Int) : Option (((List Int) × Int × List Int) ⊕ ((List Int) × Int × List Int)) :=
  cond (decide (((List.length iF : Nat) : Int) = (1024 : Int)))
  (some (.inr ([], (7 : Int), iF)))
  (bD ((List.length iF + List.length ([t51])) * 8 ≤ 140737488355328 ∧ List.length iF + List.length ([t51]) ≤ 9223372036854775807) <|
  some (.inl (t10, t11, iF ++ ([t51]))))

noncomputable def uQ (t10 : (List Int)) (t11 : Int) (iF : List Int) (tH : Int) (tO : bJ) (tF : Int) (tG : Int) (tE : Int) : Option ((List Int) × Int) :=
  (mL (fun st t51 => rnd (fun (s : (List Int) × Int × List Int) => lG tH tO tF tG tE s.1 s.2.1 s.2.2 t51) st) tH tO tF tG tE (.inl (t10, t11, iF))).bind (Sum.elim (fun (s : (List Int) × Int × List Int) =>
  (some (s.2.2, (0 : Int))))
  (fun (s : (List Int) × Int × List Int) =>
  (some (s.1, s.2.1))))

noncomputable def sO (iP : Int) (hop1 : Int) (s2 : bJ) (iH : Int) (eY : Int) : Option ((List Int) × Int) :=
  (qE iP hop1).bind fun x3 =>
  cond (!x3)
  (some ([], (2 : Int)))
  ((mT iH).bind fun x7 =>
  (cW (!(!x7)) (mT eY)).bind fun x10 =>
  cond ((!x7) || (!x10))
  (some ([], (13 : Int)))
  (cond (((decide (s2.From < (-1 : Int))) || (decide (s2.To ≤ s2.From))) || (decide ((1125899906842624 : Int) < s2.To)))
  (some ([], (14 : Int)))
  ((pV iP hop1 s2 iH eY).bind fun x17 =>
  uQ ([]) 0 ([] : List Int) x17.1 x17.2.1 x17.2.2.1 x17.2.2.2.1 x17.2.2.2.2)))

noncomputable def nW (l0 : (List aM)) : Option ((List aM)) :=
  some l0

noncomputable def gO  : Option Bool :=
  some true

noncomputable def eV (s10 : (List aE)) (s21 : (List aE)) (t12 : Int) (t13 : Int) : Option ((Int) ⊕ (Unit ⊕ Bool)) :=
  cond (decide (t13 < t12))
  (bD (0 ≤ t13 ∧ t13 < ((List.length s10 : Nat) : Int)) <|
  bD (0 ≤ t13 ∧ t13 < ((List.length s21 : Nat) : Int)) <|
  cond (!((decide (((List.getD s10 (Int.toNat t13) default).Kind) = ((List.getD s21 (Int.toNat t13) default).Kind))) && ((decide (((List.getD s10 (Int.toNat t13) default).Num) = ((List.getD s21 (Int.toNat t13) default).Num))) && ((nR ((List.getD s10 (Int.toNat t13) default).Text) ((List.getD s21 (Int.toNat t13) default).Text)) && true))))
  (some (.inr (.inr false)))
  (some (.inl (IntKind.i64.wrap (t13 + (1 : Int))))))
  (some (.inr (.inl ())))

noncomputable def jH (s10 : (List aE)) (s21 : (List aE)) (t12 : Int) (t13 : Int) : Option Bool :=
  (lp (fun s => eV s10 s21 t12 s) t13).bind (Sum.elim (fun rr => gO ) (fun rr => some rr))

noncomputable def jO (s10 : (List aE)) (s21 : (List aE)) : Option Bool :=
  cond (!decide (((List.length s10 : Nat) : Int) = ((List.length s21 : Nat) : Int)))
  (some false)
  (jH s10 s21 ((List.length s10 : Nat) : Int) (0 : Int))

noncomputable def qP (a0 : (List aE)) (b1 : (List aE)) : Option Bool :=
  (jO a0 b1).bind fun x1 =>
  some x1

noncomputable def qQ (r0 : (List aE)) : Option (List aE) :=
  bD (0 ≤ ((List.length r0 : Nat) : Int) ∧ (32 : Int) * ((List.length r0 : Nat) : Int) ≤ 281474976710656 ∧ ((List.length r0 : Nat) : Int) ≤ 9223372036854775807) <|
  bD ((List.length ([] : List aE) + List.length r0) * 32 ≤ 140737488355328 ∧ List.length ([] : List aE) + List.length r0 ≤ 9223372036854775807) <|
  some (([] : List aE) ++ r0)

noncomputable def oD {σ : Type} (cJ : σ → (List aE) → (List aB) → Option (σ × Bool)) (sg : σ) (t1 : (List aM)) (i3 : Int) (r4 : (List aE)) (f5 : List aB) : Option ((σ × Int) ⊕ (σ ⊕ σ)) :=
  (qQ r4).bind fun x7 =>
  (cJ sg x7 f5).bind fun x10 =>
  cond (!x10.2)
  (some (.inr (.inr x10.1)))
  (some (.inl (x10.1, i3)))

noncomputable def jM {σ : Type} (cJ : σ → (List aE) → (List aB) → Option (σ × Bool)) (t1 : (List aM)) (r4 : (List aE)) (sg : σ) (i3 : Int) (f5 : List aB) : Option ((σ × Int × List aB) ⊕ ((σ × Int × List aB))) :=
  bD ((((decide (i3 < ((List.length t1 : Nat) : Int)))) = true → 0 ≤ i3 ∧ i3 < ((List.length t1 : Nat) : Int))) <|
  (cW (decide (i3 < ((List.length t1 : Nat) : Int))) (qP ((List.getD t1 (Int.toNat i3) default).Row) r4)).bind fun x16 =>
  cond ((decide (i3 < ((List.length t1 : Nat) : Int))) && x16)
  (bD (0 ≤ i3 ∧ i3 < ((List.length t1 : Nat) : Int)) <|
  bD (0 ≤ i3 ∧ i3 < ((List.length t1 : Nat) : Int)) <|
  bD ((List.length f5 + List.length ([aB.mk ((List.getD t1 (Int.toNat i3) default).At) ((List.getD t1 (Int.toNat i3) default).Net)])) * 16 ≤ 140737488355328 ∧ List.length f5 + List.length ([aB.mk ((List.getD t1 (Int.toNat i3) default).At) ((List.getD t1 (Int.toNat i3) default).Net)]) ≤ 9223372036854775807) <|
  some (.inl (sg, IntKind.i64.wrap (i3 + (1 : Int)), f5 ++ ([aB.mk ((List.getD t1 (Int.toNat i3) default).At) ((List.getD t1 (Int.toNat i3) default).Net)]))))
  (some (.inr (sg, i3, f5)))

noncomputable def qW {σ : Type} (cJ : σ → (List aE) → (List aB) → Option (σ × Bool)) (sg : σ) (t1 : (List aM)) (i3 : Int) (r4 : (List aE)) (f5 : List aB) : Option ((σ × Int) ⊕ (σ ⊕ σ)) :=
  (lp (fun s => jM cJ t1 r4 s.1 s.2.1 s.2.2) (sg, i3, f5)).bind (fun rr => oD cJ rr.1 t1 rr.2.1 r4 rr.2.2)

noncomputable def iO {σ : Type} (cJ : σ → (List aE) → (List aB) → Option (σ × Bool)) (t1 : (List aM)) (sg : σ) (i3 : Int) : Option ((σ × Int) ⊕ (σ ⊕ σ)) :=
  cond (decide (i3 < ((List.length t1 : Nat) : Int)))
  (bD (0 ≤ i3 ∧ i3 < ((List.length t1 : Nat) : Int)) <|
  qW cJ sg t1 i3 ((List.getD t1 (Int.toNat i3) default).Row) ([] : List aB))
  (some (.inr (.inl sg)))

noncomputable def qL {σ : Type} (cJ : σ → (List aE) → (List aB) → Option (σ × Bool)) (sg : σ) (t1 : (List aM)) (i3 : Int) : Option σ :=
  (lp (fun s => iO cJ t1 s.1 s.2) (sg, i3)).bind (Sum.elim (fun rr => some rr) (fun rr => some rr))

noncomputable def lZ {σ : Type} (cJ : σ → (List aE) → (List aB) → Option (σ × Bool)) (t1 : (List aM)) (sg0 : σ) : Option σ :=
  qL cJ sg0 t1 (0 : Int)

noncomputable def fC (f1 : aE → Option Bool)  : Option Int :=
  some (-1 : Int)

noncomputable def iD (f1 : aE → Option Bool) (s0 : (List aE)) (t7 : Int) (t8 : Int) : Option ((Int) ⊕ (Unit ⊕ Int)) :=
  cond (decide (t8 < t7))
  (bD (0 ≤ t8 ∧ t8 < ((List.length s0 : Nat) : Int)) <|
  (f1 (List.getD s0 (Int.toNat t8) default)).bind fun x3 =>
  cond x3
  (some (.inr (.inr t8)))
  (some (.inl (IntKind.i64.wrap (t8 + (1 : Int))))))
  (some (.inr (.inl ())))

noncomputable def iE (f1 : aE → Option Bool) (s0 : (List aE)) (t7 : Int) (t8 : Int) : Option Int :=
  (lp (fun s => iD f1 s0 t7 s) t8).bind (Sum.elim (fun rr => fC f1 ) (fun rr => some rr))

noncomputable def iL (s0 : (List aE)) (f1 : aE → Option Bool) : Option Int :=
  iE f1 s0 ((List.length s0 : Nat) : Int) (0 : Int)

noncomputable def eU (s0 : (List aE)) (f1 : aE → Option Bool) : Option Bool :=
  (iL s0 f1).bind fun x1 =>
  some (decide ((0 : Int) ≤ x1))

noncomputable def lK (v0 : aE) : Option (bG × Bool) :=
  cond ((decide (v0.Kind = (1 : Int))) && (nR v0.Text (⟨#[]⟩ : ByteArray)))
  (some (bG.k_number v0.Num, true))
  (cond (((decide (v0.Kind = (2 : Int))) && (decide (v0.Num = (0 : Int)))) && (decide (((ByteArray.size v0.Text : Nat) : Int) ≤ (64 : Int))))
  (some (bG.k_words v0.Text, true))
  (some (bG.none_, false)))

noncomputable def tV (v0 : aE) : Option Bool :=
  (lK v0).bind fun (x1_0, x1_1) =>
  match x1_0 with
  | .none_ => (some x1_1)
  | .k_number y4 => (some x1_1)
  | .k_words y5 => (some x1_1)

noncomputable def uC (v0 : aE) : Option Bool :=
  (tV v0).bind fun x1 =>
  some (!x1)

noncomputable def sR (r0 : (List aE)) : Option Bool :=
  cond (decide ((8 : Int) < ((List.length r0 : Nat) : Int)))
  (some false)
  ((eU r0 (fun y0 => uC y0)).bind fun x2 =>
  some (!x2))

noncomputable def sB (t0 : (List aE)) : Option ((Int × (List aE))) :=
  some ((-1 : Int), t0)

noncomputable def eT {σ : Type} (f1 : σ → aE → Option (σ × Bool)) (sg : σ) : Option (σ × Int) :=
  some (sg, (-1 : Int))

noncomputable def cC {σ : Type} (f1 : σ → aE → Option (σ × Bool)) (s0 : (List aE)) (t7 : Int) (sg : σ) (t8 : Int) : Option ((σ × Int) ⊕ (σ ⊕ (σ × Int))) :=
  cond (decide (t8 < t7))
  (bD (0 ≤ t8 ∧ t8 < ((List.length s0 : Nat) : Int)) <|
  (f1 sg (List.getD s0 (Int.toNat t8) default)).bind fun x3 =>
  cond x3.2
  (some (.inr (.inr (x3.1, t8))))
  (some (.inl (x3.1, IntKind.i64.wrap (t8 + (1 : Int))))))
  (some (.inr (.inl sg)))

noncomputable def gV {σ : Type} (f1 : σ → aE → Option (σ × Bool)) (sg : σ) (s0 : (List aE)) (t7 : Int) (t8 : Int) : Option (σ × Int) :=
  (lp (fun s => cC f1 s0 t7 s.1 s.2) (sg, t8)).bind (Sum.elim (fun rr => eT f1 rr) (fun rr => some (rr.1, rr.2)))

noncomputable def hY {σ : Type} (s0 : (List aE)) (f1 : σ → aE → Option (σ × Bool)) (sg0 : σ) : Option (σ × Int) :=
  gV f1 sg0 s0 ((List.length s0 : Nat) : Int) (0 : Int)

noncomputable def jT (v0 : aE) (t1 : Int) (t2 : (List aE)) : Option (Bool × Int) :=
  bD (0 ≤ (IntKind.i64.wrap (t1 + (1 : Int))) ∧ (IntKind.i64.wrap (t1 + (1 : Int))) < ((List.length t2 : Nat) : Int)) <|
  some ((!((decide (v0.Kind = ((List.getD t2 (Int.toNat (IntKind.i64.wrap (t1 + (1 : Int)))) default).Kind))) && ((decide (v0.Num = ((List.getD t2 (Int.toNat (IntKind.i64.wrap (t1 + (1 : Int)))) default).Num))) && ((nR v0.Text ((List.getD t2 (Int.toNat (IntKind.i64.wrap (t1 + (1 : Int)))) default).Text)) && true)))), (IntKind.i64.wrap (t1 + (1 : Int))))

noncomputable def kX (x0 : Int) : Option Bool :=
  some (!decide (x0 = x0))

noncomputable def nQ (x0 : Int) (y1 : Int) : Option Int :=
  (kX x0).bind fun x1 =>
  (kX y1).bind fun x4 =>
  cond x1
  (cond x4
  (some (0 : Int))
  (some (-1 : Int)))
  (cond x4
  (some (1 : Int))
  (cond (decide (x0 < y1))
  (some (-1 : Int))
  (cond (decide (y1 < x0))
  (some (1 : Int))
  (some (0 : Int)))))

noncomputable def kI (x0 : Int) : Option Bool :=
  some (!decide (x0 = x0))

noncomputable def fT (x0 : Int) (y1 : Int) : Option Int :=
  (kI x0).bind fun x1 =>
  (kI y1).bind fun x4 =>
  cond x1
  (cond x4
  (some (0 : Int))
  (some (-1 : Int)))
  (cond x4
  (some (1 : Int))
  (cond (decide (x0 < y1))
  (some (-1 : Int))
  (cond (decide (y1 < x0))
  (some (1 : Int))
  (some (0 : Int)))))

noncomputable def jK (a0 : ByteArray) (b1 : ByteArray) : Option Int :=
  some (KM a0 b1)

noncomputable def mE (a0 : ByteArray) (b1 : ByteArray) : Option Int :=
  (jK a0 b1).bind fun x1 =>
  some x1

noncomputable def oV (a0 : aE) (b1 : aE) : Option Int :=
  (lK a0).bind fun (x1_0, x1_1) =>
  match x1_0 with
  | .none_ => ((lK b1).bind fun (x6_0, x6_1) =>
  match x6_0 with
  | .none_ => (cond ((!x1_1) || (!x6_1))
  (some (0 : Int))
  (none))
  | .k_number y9 => (cond ((!x1_1) || (!x6_1))
  (some (0 : Int))
  (some (1 : Int)))
  | .k_words y10 => (cond ((!x1_1) || (!x6_1))
  (some (0 : Int))
  (none)))
  | .k_number y4 => ((lK b1).bind fun (x23_0, x23_1) =>
  match x23_0 with
  | .none_ => (cond ((!x1_1) || (!x23_1))
  (some (0 : Int))
  (some (-1 : Int)))
  | .k_number y26 => (cond ((!x1_1) || (!x23_1))
  (some (0 : Int))
  ((fT y4 y26).bind fun x33 =>
  some x33))
  | .k_words y27 => (cond ((!x1_1) || (!x23_1))
  (some (0 : Int))
  (some (-1 : Int))))
  | .k_words y5 => ((lK b1).bind fun (x39_0, x39_1) =>
  match x39_0 with
  | .none_ => (cond ((!x1_1) || (!x39_1))
  (some (0 : Int))
  (none))
  | .k_number y42 => (cond ((!x1_1) || (!x39_1))
  (some (0 : Int))
  (some (1 : Int)))
  | .k_words y43 => (cond ((!x1_1) || (!x39_1))
  (some (0 : Int))
  ((mE y5 y43).bind fun x56 =>
  some x56)))

noncomputable def rA (a0 : (List aE)) (b1 : (List aE)) : Option Int :=
  (sR a0).bind fun x1 =>
  (cW (!(!x1)) (sR b1)).bind fun x4 =>
  cond ((!x1) || (!x4))
  (some (0 : Int))
  (bD (0 ≤ (if ((List.length b1 : Nat) : Int) < ((List.length a0 : Nat) : Int) then ((List.length b1 : Nat) : Int) else ((List.length a0 : Nat) : Int)) ∧ (if ((List.length b1 : Nat) : Int) < ((List.length a0 : Nat) : Int) then ((List.length b1 : Nat) : Int) else ((List.length a0 : Nat) : Int)) ≤ ((List.length a0 : Nat) : Int)) <|
  (sB b1).bind fun x9 =>
  (hY (List.take (Int.toNat (if ((List.length b1 : Nat) : Int) < ((List.length a0 : Nat) : Int) then ((List.length b1 : Nat) : Int) else ((List.length a0 : Nat) : Int))) a0) (fun st y0 => (jT y0 st x9.2).bind fun o => some (o.2, o.1)) x9.1).bind fun x12 =>
  cond (decide (x12.2 < (0 : Int)))
  ((nQ ((List.length a0 : Nat) : Int) ((List.length b1 : Nat) : Int)).bind fun x15 =>
  some x15)
  (bD (0 ≤ x12.2 ∧ x12.2 < ((List.length a0 : Nat) : Int)) <|
  bD (0 ≤ x12.2 ∧ x12.2 < ((List.length b1 : Nat) : Int)) <|
  (oV (List.getD a0 (Int.toNat x12.2) default) (List.getD b1 (Int.toNat x12.2) default)).bind fun x20 =>
  some x20))

noncomputable def oE (sN : (List aB) → Option Bool) (kR : (List aM)) (t4 : Bool) (nU : (List aE)) (kB : Bool) (t14 : (List aE)) (t15 : (List aB)) : Option ((Bool × (List aE) × Bool) ⊕ (Bool × (List aE) × Bool)) :=
  (sR t14).bind fun x7 =>
  (cW (kB && (!(!x7))) (rA nU t14)).bind fun x12 =>
  (cW (!((!x7) || (kB && (decide ((0 : Int) ≤ x12))))) (sN t15)).bind fun x15 =>
  cond (((!x7) || (kB && (decide ((0 : Int) ≤ x12)))) || (!x15))
  (some (.inr (false, nU, kB)))
  (some (.inl (t4, t14, true)))

noncomputable def vY (sN : (List aB) → Option Bool) (t4 : Bool) (nU : (List aE)) (kB : Bool) (kR : (List aM)) : Option Bool :=
  (lZ (fun st t14 t15 => rnd (fun (s : Bool × (List aE) × Bool) => oE sN kR s.1 s.2.1 s.2.2 t14 t15) st) kR (.inl (t4, nU, kB))).bind (Sum.elim (fun (s : Bool × (List aE) × Bool) =>
  (some true))
  (fun (s : Bool × (List aE) × Bool) =>
  (some s.1)))

noncomputable def rQ (l0 : (List aM)) (sN : (List aB) → Option Bool) : Option Bool :=
  cond (decide ((4096 : Int) < ((List.length l0 : Nat) : Int)))
  (some false)
  ((nW l0).bind fun x5 =>
  vY sN false ([]) false x5)

noncomputable def xH (n0 : Int) : Option Bool :=
  some ((decide (n0 ≤ (1048576 : Int))) && (decide ((-1048576 : Int) ≤ n0)))

noncomputable def uD  : Option Bool :=
  some true

noncomputable def lU (t9 : (List aB)) (t10 : Int) (pO : Int) (t11 : Int) : Option ((Int × Int) ⊕ (Unit ⊕ Bool)) :=
  cond (decide (t11 < t10))
  (bD (0 ≤ t11 ∧ t11 < ((List.length t9 : Nat) : Int)) <|
  (cW (!(((decide (((List.getD t9 (Int.toNat t11) default).At) ≤ pO)) || (decide ((1125899906842624 : Int) ≤ ((List.getD t9 (Int.toNat t11) default).At)))) || (decide (((List.getD t9 (Int.toNat t11) default).Net) = (0 : Int))))) (xH ((List.getD t9 (Int.toNat t11) default).Net))).bind fun x8 =>
  cond ((((decide (((List.getD t9 (Int.toNat t11) default).At) ≤ pO)) || (decide ((1125899906842624 : Int) ≤ ((List.getD t9 (Int.toNat t11) default).At)))) || (decide (((List.getD t9 (Int.toNat t11) default).Net) = (0 : Int)))) || (!x8))
  (some (.inr (.inr false)))
  (some (.inl ((List.getD t9 (Int.toNat t11) default).At, IntKind.i64.wrap (t11 + (1 : Int))))))
  (some (.inr (.inl ())))

noncomputable def xE (pO : Int) (t9 : (List aB)) (t10 : Int) (t11 : Int) : Option Bool :=
  (lp (fun s => lU t9 t10 s.1 s.2) (pO, t11)).bind (Sum.elim (fun rr => uD ) (fun rr => some rr))

noncomputable def lV (f0 : (List aB)) : Option Bool :=
  cond (decide ((1024 : Int) < ((List.length f0 : Nat) : Int)))
  (some false)
  (xE (-2 : Int) f0 ((List.length f0 : Nat) : Int) (0 : Int))

noncomputable def qI (l0 : (List aM)) : Option Bool :=
  (rQ l0 (fun y0 => lV y0)).bind fun x1 =>
  some x1

noncomputable def rL (iC : Int) : Option Int :=
  some iC

noncomputable def mF (t24 : (List aB)) (t25 : Int) (v3 : Int) (iC : Int) (t26 : Int) : Option ((Int × Int × Int) ⊕ (Int)) :=
  cond (decide (t26 < t25))
  (bD (0 ≤ t26 ∧ t26 < ((List.length t24 : Nat) : Int)) <|
  some (.inl (IntKind.i64.wrap (v3 + ((List.getD t24 (Int.toNat t26) default).Net)), if (IntKind.i64.wrap (v3 + ((List.getD t24 (Int.toNat t26) default).Net))) < iC then (IntKind.i64.wrap (v3 + ((List.getD t24 (Int.toNat t26) default).Net))) else iC, IntKind.i64.wrap (t26 + (1 : Int)))))
  (some (.inr iC))

noncomputable def rB (v3 : Int) (iC : Int) (t24 : (List aB)) (t25 : Int) (t26 : Int) : Option Int :=
  (lp (fun s => mF t24 t25 s.1 s.2.1 s.2.2) (v3, iC, t26)).bind (fun rr => rL rr)

noncomputable def oP (f0 : (List aB)) (v3 : Int) (iC : Int) : Option Int :=
  rB v3 iC f0 ((List.length f0 : Nat) : Int) (0 : Int)

noncomputable def sX (f0 : (List aB)) : Option Int :=
  (lV f0).bind fun x1 =>
  cond ((!x1) || (decide (((List.length f0 : Nat) : Int) = (0 : Int))))
  (some (0 : Int))
  (bD (0 ≤ (0 : Int) ∧ (0 : Int) < ((List.length f0 : Nat) : Int)) <|
  cond (decide (((List.getD f0 (Int.toNat (0 : Int)) default).At) = (-1 : Int)))
  (bD (0 ≤ (0 : Int) ∧ (0 : Int) < ((List.length f0 : Nat) : Int)) <|
  oP f0 (0 : Int) ((List.getD f0 (Int.toNat (0 : Int)) default).Net))
  (oP f0 (0 : Int) (0 : Int)))

noncomputable def pY (f0 : (List aB)) : Option Bool :=
  (lV f0).bind fun x1 =>
  (cW x1 (sX f0)).bind fun x4 =>
  some (x1 && (decide ((0 : Int) ≤ x4)))

noncomputable def sY (l0 : (List aM)) : Option Bool :=
  (rQ l0 (fun y0 => pY y0)).bind fun x1 =>
  some x1

noncomputable def uM (l0 : (List aM)) : Option ((List aM)) :=
  some l0

noncomputable def kL {σ : Type} (cJ : σ → (List aE) → (List aB) → Option (σ × Bool)) (t9c0 : (List aM)) (sg : σ) (t10 : (List aE)) (t11 : (List aB)) : Option ((σ) ⊕ (σ)) :=
  (cJ sg t10 t11).bind fun x7 =>
  cond (!x7.2)
  (some (.inr x7.1))
  (some (.inl x7.1))

noncomputable def oY {σ : Type} (cJ : σ → (List aE) → (List aB) → Option (σ × Bool)) (sg : σ) (t9c0 : (List aM)) : Option σ :=
  (lZ (fun st t10 t11 => rnd (fun (s : σ) => kL cJ t9c0 s t10 t11) st) t9c0 (.inl sg)).bind (Sum.elim (fun (s : σ) =>
  (some s))
  (fun (s : σ) =>
  (some s)))

noncomputable def nP {σ : Type} (cJ : σ → (List aE) → (List aB) → Option (σ × Bool)) (t1 : (List aM)) (sg0 : σ) : Option σ :=
  (qI t1).bind fun x1 =>
  cond (!x1)
  (some sg0)
  ((nW t1).bind fun x5 =>
  oY cJ sg0 x5)

noncomputable def lR (x0 : Int) (n2 : Int) : Option Int :=
  bD (0 ≤ (IntKind.u8.wrap x0) ∧ (IntKind.u8.wrap x0) < ((ByteArray.size (⟨#[0, 1, 2, 2, 3, 3, 3, 3, 4, 4, 4, 4, 4, 4, 4, 4, 5, 5, 5, 5, 5, 5, 5, 5, 5, 5, 5, 5, 5, 5, 5, 5, 6, 6, 6, 6, 6, 6, 6, 6, 6, 6, 6, 6, 6, 6, 6, 6, 6, 6, 6, 6, 6, 6, 6, 6, 6, 6, 6, 6, 6, 6, 6, 6, 7, 7, 7, 7, 7, 7, 7, 7, 7, 7, 7, 7, 7, 7, 7, 7, 7, 7, 7, 7, 7, 7, 7, 7, 7, 7, 7, 7, 7, 7, 7, 7, 7, 7, 7, 7, 7, 7, 7, 7, 7, 7, 7, 7, 7, 7, 7, 7, 7, 7, 7, 7, 7, 7, 7, 7, 7, 7, 7, 7, 7, 7, 7, 7, 8, 8, 8, 8, 8, 8, 8, 8, 8, 8, 8, 8, 8, 8, 8, 8, 8, 8, 8, 8, 8, 8, 8, 8, 8, 8, 8, 8, 8, 8, 8, 8, 8, 8, 8, 8, 8, 8, 8, 8, 8, 8, 8, 8, 8, 8, 8, 8, 8, 8, 8, 8, 8, 8, 8, 8, 8, 8, 8, 8, 8, 8, 8, 8, 8, 8, 8, 8, 8, 8, 8, 8, 8, 8, 8, 8, 8, 8, 8, 8, 8, 8, 8, 8, 8, 8, 8, 8, 8, 8, 8, 8, 8, 8, 8, 8, 8, 8, 8, 8, 8, 8, 8, 8, 8, 8, 8, 8, 8, 8, 8, 8, 8, 8, 8, 8, 8, 8, 8, 8, 8, 8, 8, 8, 8, 8, 8, 8]⟩ : ByteArray) : Nat) : Int)) <|
  some (IntKind.i64.wrap (n2 + (IntKind.i64.wrap (bt (⟨#[0, 1, 2, 2, 3, 3, 3, 3, 4, 4, 4, 4, 4, 4, 4, 4, 5, 5, 5, 5, 5, 5, 5, 5, 5, 5, 5, 5, 5, 5, 5, 5, 6, 6, 6, 6, 6, 6, 6, 6, 6, 6, 6, 6, 6, 6, 6, 6, 6, 6, 6, 6, 6, 6, 6, 6, 6, 6, 6, 6, 6, 6, 6, 6, 7, 7, 7, 7, 7, 7, 7, 7, 7, 7, 7, 7, 7, 7, 7, 7, 7, 7, 7, 7, 7, 7, 7, 7, 7, 7, 7, 7, 7, 7, 7, 7, 7, 7, 7, 7, 7, 7, 7, 7, 7, 7, 7, 7, 7, 7, 7, 7, 7, 7, 7, 7, 7, 7, 7, 7, 7, 7, 7, 7, 7, 7, 7, 7, 8, 8, 8, 8, 8, 8, 8, 8, 8, 8, 8, 8, 8, 8, 8, 8, 8, 8, 8, 8, 8, 8, 8, 8, 8, 8, 8, 8, 8, 8, 8, 8, 8, 8, 8, 8, 8, 8, 8, 8, 8, 8, 8, 8, 8, 8, 8, 8, 8, 8, 8, 8, 8, 8, 8, 8, 8, 8, 8, 8, 8, 8, 8, 8, 8, 8, 8, 8, 8, 8, 8, 8, 8, 8, 8, 8, 8, 8, 8, 8, 8, 8, 8, 8, 8, 8, 8, 8, 8, 8, 8, 8, 8, 8, 8, 8, 8, 8, 8, 8, 8, 8, 8, 8, 8, 8, 8, 8, 8, 8, 8, 8, 8, 8, 8, 8, 8, 8, 8, 8, 8, 8, 8, 8, 8, 8, 8, 8]⟩ : ByteArray) (IntKind.u8.wrap x0)))))

noncomputable def kJ (x0 : Int) (n2 : Int) : Option Int :=
  cond (decide ((256 : Int) ≤ x0))
  (bD (0 ≤ (8 : Int)) <|
  lR (Int.fdiv x0 (2 ^ (min (Int.toNat (8 : Int)) 64))) (IntKind.i64.wrap (n2 + (8 : Int))))
  (lR x0 n2)

noncomputable def kH (x0 : Int) (n2 : Int) : Option Int :=
  cond (decide ((65536 : Int) ≤ x0))
  (bD (0 ≤ (16 : Int)) <|
  kJ (Int.fdiv x0 (2 ^ (min (Int.toNat (16 : Int)) 64))) (IntKind.i64.wrap (n2 + (16 : Int))))
  (kJ x0 n2)

noncomputable def nM (x0 : Int) : Option Int :=
  cond (decide ((4294967296 : Int) ≤ x0))
  (bD (0 ≤ (32 : Int)) <|
  kH (Int.fdiv x0 (2 ^ (min (Int.toNat (32 : Int)) 64))) (32 : Int))
  (kH x0 (0 : Int))

noncomputable def kA (x0 : Int) : Option Int :=
  (nM x0).bind fun x2 =>
  some x2

noncomputable def cY (x0 : Int) (y1 : Int) : Option Bool :=
  (kX x0).bind fun x1 =>
  (cW x1 (kX y1)).bind fun x4 =>
  some ((x1 && (!x4)) || (decide (x0 < y1)))

noncomputable def fY (aA : List Int) (a1 : Int) (b2 : Int) (i6 : Int) : Option ((List Int × Int) ⊕ ((List Int))) :=
  some (.inl (aA, IntKind.i64.wrap (i6 + (1 : Int))))

noncomputable def eP (a1 : Int) (b2 : Int) (i6 : Int) (aA : List Int) (j7 : Int) : Option ((List Int × Int) ⊕ ((List Int))) :=
  bD ((((decide (a1 < j7))) = true → 0 ≤ j7 ∧ j7 < ((List.length aA : Nat) : Int))) <|
  bD ((((decide (a1 < j7))) = true → 0 ≤ (IntKind.i64.wrap (j7 - (1 : Int))) ∧ (IntKind.i64.wrap (j7 - (1 : Int))) < ((List.length aA : Nat) : Int))) <|
  (cW (decide (a1 < j7)) (cY (List.getD aA (Int.toNat j7) default) (List.getD aA (Int.toNat (IntKind.i64.wrap (j7 - (1 : Int)))) default))).bind fun x4 =>
  cond ((decide (a1 < j7)) && x4)
  (bD (0 ≤ (IntKind.i64.wrap (j7 - (1 : Int))) ∧ (IntKind.i64.wrap (j7 - (1 : Int))) < ((List.length aA : Nat) : Int)) <|
  bD (0 ≤ j7 ∧ j7 < ((List.length aA : Nat) : Int)) <|
  bD (0 ≤ j7 ∧ j7 < ((List.length aA : Nat) : Int)) <|
  bD (0 ≤ (IntKind.i64.wrap (j7 - (1 : Int))) ∧ (IntKind.i64.wrap (j7 - (1 : Int))) < ((List.length aA : Nat) : Int)) <|
  some (.inl (List.set (List.set aA (Int.toNat j7) (List.getD aA (Int.toNat (IntKind.i64.wrap (j7 - (1 : Int)))) default)) (Int.toNat (IntKind.i64.wrap (j7 - (1 : Int)))) (List.getD aA (Int.toNat j7) default), IntKind.i64.wrap (j7 - (1 : Int)))))
  (some (.inr aA))

noncomputable def jB (aA : List Int) (a1 : Int) (b2 : Int) (i6 : Int) (j7 : Int) : Option ((List Int × Int) ⊕ ((List Int))) :=
  (lp (fun s => eP a1 b2 i6 s.1 s.2) (aA, j7)).bind (fun rr => fY rr a1 b2 i6)

noncomputable def cZ (a1 : Int) (b2 : Int) (aA : List Int) (i6 : Int) : Option ((List Int × Int) ⊕ ((List Int))) :=
  cond (decide (i6 < b2))
  (jB aA a1 b2 i6 i6)
  (some (.inr aA))

noncomputable def jD (aA : List Int) (a1 : Int) (b2 : Int) (i6 : Int) : Option (List Int) :=
  (lp (fun s => cZ a1 b2 s.1 s.2) (aA, i6)).bind (fun rr => some rr)

noncomputable def gM (aA : (List Int)) (a1 : Int) (b2 : Int) : Option (List Int) :=
  jD aA a1 b2 (IntKind.i64.wrap (a1 + (1 : Int)))

noncomputable def gE (aA : List Int) (hi2 : Int) (bE : Int) (bZ : Int) (dW : Int) : Option ((List Int × Int) ⊕ ((List Int) ⊕ (List Int))) :=
  bD (0 ≤ (IntKind.i64.wrap (bE + bZ)) ∧ (IntKind.i64.wrap (bE + bZ)) < ((List.length aA : Nat) : Int)) <|
  bD (0 ≤ (IntKind.i64.wrap (bE + dW)) ∧ (IntKind.i64.wrap (bE + dW)) < ((List.length aA : Nat) : Int)) <|
  (cY (List.getD aA (Int.toNat (IntKind.i64.wrap (bE + bZ))) default) (List.getD aA (Int.toNat (IntKind.i64.wrap (bE + dW))) default)).bind fun x4 =>
  cond (!x4)
  (some (.inr (.inr aA)))
  (bD (0 ≤ (IntKind.i64.wrap (bE + dW)) ∧ (IntKind.i64.wrap (bE + dW)) < ((List.length aA : Nat) : Int)) <|
  bD (0 ≤ (IntKind.i64.wrap (bE + bZ)) ∧ (IntKind.i64.wrap (bE + bZ)) < ((List.length aA : Nat) : Int)) <|
  bD (0 ≤ (IntKind.i64.wrap (bE + bZ)) ∧ (IntKind.i64.wrap (bE + bZ)) < ((List.length aA : Nat) : Int)) <|
  bD (0 ≤ (IntKind.i64.wrap (bE + dW)) ∧ (IntKind.i64.wrap (bE + dW)) < ((List.length aA : Nat) : Int)) <|
  some (.inl (List.set (List.set aA (Int.toNat (IntKind.i64.wrap (bE + bZ))) (List.getD aA (Int.toNat (IntKind.i64.wrap (bE + dW))) default)) (Int.toNat (IntKind.i64.wrap (bE + dW))) (List.getD aA (Int.toNat (IntKind.i64.wrap (bE + bZ))) default), dW)))

noncomputable def cV (hi2 : Int) (bE : Int) (aA : List Int) (bZ : Int) : Option ((List Int × Int) ⊕ ((List Int) ⊕ (List Int))) :=
  cond (decide (hi2 ≤ (IntKind.i64.wrap ((IntKind.i64.wrap ((2 : Int) * bZ)) + (1 : Int)))))
  (some (.inr (.inl aA)))
  (bD ((((decide ((IntKind.i64.wrap ((IntKind.i64.wrap ((IntKind.i64.wrap ((2 : Int) * bZ)) + (1 : Int))) + (1 : Int))) < hi2))) = true → 0 ≤ (IntKind.i64.wrap (bE + (IntKind.i64.wrap ((IntKind.i64.wrap ((2 : Int) * bZ)) + (1 : Int))))) ∧ (IntKind.i64.wrap (bE + (IntKind.i64.wrap ((IntKind.i64.wrap ((2 : Int) * bZ)) + (1 : Int))))) < ((List.length aA : Nat) : Int))) <|
  bD ((((decide ((IntKind.i64.wrap ((IntKind.i64.wrap ((IntKind.i64.wrap ((2 : Int) * bZ)) + (1 : Int))) + (1 : Int))) < hi2))) = true → 0 ≤ (IntKind.i64.wrap ((IntKind.i64.wrap (bE + (IntKind.i64.wrap ((IntKind.i64.wrap ((2 : Int) * bZ)) + (1 : Int))))) + (1 : Int))) ∧ (IntKind.i64.wrap ((IntKind.i64.wrap (bE + (IntKind.i64.wrap ((IntKind.i64.wrap ((2 : Int) * bZ)) + (1 : Int))))) + (1 : Int))) < ((List.length aA : Nat) : Int))) <|
  (cW (decide ((IntKind.i64.wrap ((IntKind.i64.wrap ((IntKind.i64.wrap ((2 : Int) * bZ)) + (1 : Int))) + (1 : Int))) < hi2)) (cY (List.getD aA (Int.toNat (IntKind.i64.wrap (bE + (IntKind.i64.wrap ((IntKind.i64.wrap ((2 : Int) * bZ)) + (1 : Int)))))) default) (List.getD aA (Int.toNat (IntKind.i64.wrap ((IntKind.i64.wrap (bE + (IntKind.i64.wrap ((IntKind.i64.wrap ((2 : Int) * bZ)) + (1 : Int))))) + (1 : Int)))) default))).bind fun x14 =>
  cond ((decide ((IntKind.i64.wrap ((IntKind.i64.wrap ((IntKind.i64.wrap ((2 : Int) * bZ)) + (1 : Int))) + (1 : Int))) < hi2)) && x14)
  (gE aA hi2 bE bZ (IntKind.i64.wrap ((IntKind.i64.wrap ((IntKind.i64.wrap ((2 : Int) * bZ)) + (1 : Int))) + (1 : Int))))
  (gE aA hi2 bE bZ (IntKind.i64.wrap ((IntKind.i64.wrap ((2 : Int) * bZ)) + (1 : Int)))))

noncomputable def kG (aA : List Int) (hi2 : Int) (bE : Int) (bZ : Int) : Option (List Int) :=
  (lp (fun s => cV hi2 bE s.1 s.2) (aA, bZ)).bind (Sum.elim (fun rr => some rr) (fun rr => some rr))

noncomputable def fB (aA : (List Int)) (lo1 : Int) (hi2 : Int) (bE : Int) : Option (List Int) :=
  kG aA hi2 bE lo1

noncomputable def dX (bN : Int) (lo7 : Int) (aA : List Int) (i10 : Int) : Option ((List Int × Int) ⊕ ((List Int))) :=
  cond (decide ((0 : Int) ≤ i10))
  (bD (0 ≤ (IntKind.i64.wrap (bN + i10)) ∧ (IntKind.i64.wrap (bN + i10)) < ((List.length aA : Nat) : Int)) <|
  bD (0 ≤ bN ∧ bN < ((List.length aA : Nat) : Int)) <|
  bD (0 ≤ bN ∧ bN < ((List.length aA : Nat) : Int)) <|
  bD (0 ≤ (IntKind.i64.wrap (bN + i10)) ∧ (IntKind.i64.wrap (bN + i10)) < ((List.length aA : Nat) : Int)) <|
  (fB (List.set (List.set aA (Int.toNat bN) (List.getD aA (Int.toNat (IntKind.i64.wrap (bN + i10))) default)) (Int.toNat (IntKind.i64.wrap (bN + i10))) (List.getD aA (Int.toNat bN) default)) lo7 i10 bN).bind fun x6 =>
  some (.inl (x6, IntKind.i64.wrap (i10 - (1 : Int)))))
  (some (.inr aA))

noncomputable def kF (aA : List Int) (bN : Int) (lo7 : Int) (i10 : Int) : Option (List Int) :=
  (lp (fun s => dX bN lo7 s.1 s.2) (aA, i10)).bind (fun rr => some rr)

noncomputable def iY (aA : List Int) (bN : Int) (lo7 : Int) (hi8 : Int) : Option (List Int) :=
  kF aA bN lo7 (IntKind.i64.wrap (hi8 - (1 : Int)))

noncomputable def dY (bN : Int) (lo7 : Int) (hi8 : Int) (aA : List Int) (i9 : Int) : Option ((List Int × Int) ⊕ ((List Int))) :=
  cond (decide ((0 : Int) ≤ i9))
  ((fB aA i9 hi8 bN).bind fun x11 =>
  some (.inl (x11, IntKind.i64.wrap (i9 - (1 : Int)))))
  (some (.inr aA))

noncomputable def kE (aA : List Int) (bN : Int) (lo7 : Int) (hi8 : Int) (i9 : Int) : Option (List Int) :=
  (lp (fun s => dY bN lo7 hi8 s.1 s.2) (aA, i9)).bind (fun rr => iY rr bN lo7 hi8)

noncomputable def jF (aA : (List Int)) (a1 : Int) (b2 : Int) : Option (List Int) :=
  bD ((2 : Int) ≠ 0) <|
  kE aA a1 (0 : Int) (IntKind.i64.wrap (b2 - a1)) (IntKind.i64.wrap (Int.tdiv (IntKind.i64.wrap ((IntKind.i64.wrap (b2 - a1)) - (1 : Int))) (2 : Int)))

noncomputable def kT (BD : Int) : Option Int :=
  (kA (IntKind.u64.wrap BD)).bind fun x1 =>
  bD (0 ≤ x1) <|
  some (IntKind.u64.wrap ((1 : Int) * 2 ^ (min (Int.toNat x1) 64)))

noncomputable def lE (r0 : Int) : Option (Int × Int) :=
  bD (0 ≤ (13 : Int)) <|
  bD (0 ≤ (7 : Int)) <|
  bD (0 ≤ (17 : Int)) <|
  some (bM .xor .u64 (bM .xor .u64 (bM .xor .u64 r0 (IntKind.u64.wrap (r0 * 2 ^ (min (Int.toNat (13 : Int)) 64)))) (Int.fdiv (bM .xor .u64 r0 (IntKind.u64.wrap (r0 * 2 ^ (min (Int.toNat (13 : Int)) 64)))) (2 ^ (min (Int.toNat (7 : Int)) 64)))) (IntKind.u64.wrap ((bM .xor .u64 (bM .xor .u64 r0 (IntKind.u64.wrap (r0 * 2 ^ (min (Int.toNat (13 : Int)) 64)))) (Int.fdiv (bM .xor .u64 r0 (IntKind.u64.wrap (r0 * 2 ^ (min (Int.toNat (13 : Int)) 64)))) (2 ^ (min (Int.toNat (7 : Int)) 64)))) * 2 ^ (min (Int.toNat (17 : Int)) 64))), bM .xor .u64 (bM .xor .u64 (bM .xor .u64 r0 (IntKind.u64.wrap (r0 * 2 ^ (min (Int.toNat (13 : Int)) 64)))) (Int.fdiv (bM .xor .u64 r0 (IntKind.u64.wrap (r0 * 2 ^ (min (Int.toNat (13 : Int)) 64)))) (2 ^ (min (Int.toNat (7 : Int)) 64)))) (IntKind.u64.wrap ((bM .xor .u64 (bM .xor .u64 r0 (IntKind.u64.wrap (r0 * 2 ^ (min (Int.toNat (13 : Int)) 64)))) (Int.fdiv (bM .xor .u64 r0 (IntKind.u64.wrap (r0 * 2 ^ (min (Int.toNat (13 : Int)) 64)))) (2 ^ (min (Int.toNat (7 : Int)) 64)))) * 2 ^ (min (Int.toNat (17 : Int)) 64))))

noncomputable def eS (aA : List Int) (a1 : Int) (jS : Int) (kZ : Int) (iN : Int) (idx9 : Int) (fF : Int) : Option ((List Int × Int × Int) ⊕ ((List Int))) :=
  bD (0 ≤ (IntKind.i64.wrap (a1 + fF)) ∧ (IntKind.i64.wrap (a1 + fF)) < ((List.length aA : Nat) : Int)) <|
  bD (0 ≤ idx9 ∧ idx9 < ((List.length aA : Nat) : Int)) <|
  bD (0 ≤ idx9 ∧ idx9 < ((List.length aA : Nat) : Int)) <|
  bD (0 ≤ (IntKind.i64.wrap (a1 + fF)) ∧ (IntKind.i64.wrap (a1 + fF)) < ((List.length aA : Nat) : Int)) <|
  some (.inl (List.set (List.set aA (Int.toNat idx9) (List.getD aA (Int.toNat (IntKind.i64.wrap (a1 + fF))) default)) (Int.toNat (IntKind.i64.wrap (a1 + fF))) (List.getD aA (Int.toNat idx9) default), kZ, IntKind.i64.wrap (idx9 + (1 : Int))))

noncomputable def cR (a1 : Int) (jS : Int) (iN : Int) (aA : List Int) (kZ : Int) (idx9 : Int) : Option ((List Int × Int × Int) ⊕ ((List Int))) :=
  bD ((4 : Int) ≠ 0) <|
  cond (decide (idx9 ≤ (IntKind.i64.wrap ((IntKind.i64.wrap (a1 + (IntKind.i64.wrap ((IntKind.i64.wrap (Int.tdiv jS (4 : Int))) * (2 : Int))))) + (1 : Int)))))
  ((lE kZ).bind fun x9 =>
  cond (decide (jS ≤ (IntKind.i64.wrap (bM .and .u64 x9.1 (IntKind.u64.wrap (iN - (1 : Int)))))))
  (eS aA a1 jS x9.2 iN idx9 (IntKind.i64.wrap ((IntKind.i64.wrap (bM .and .u64 x9.1 (IntKind.u64.wrap (iN - (1 : Int))))) - jS)))
  (eS aA a1 jS x9.2 iN idx9 (IntKind.i64.wrap (bM .and .u64 x9.1 (IntKind.u64.wrap (iN - (1 : Int)))))))
  (some (.inr aA))

noncomputable def iZ (aA : List Int) (a1 : Int) (jS : Int) (kZ : Int) (iN : Int) (idx9 : Int) : Option (List Int) :=
  (lp (fun s => cR a1 jS iN s.1 s.2.1 s.2.2) (aA, kZ, idx9)).bind (fun rr => some rr)

noncomputable def gL (aA : (List Int)) (a1 : Int) (b2 : Int) : Option (List Int) :=
  cond (decide ((8 : Int) ≤ (IntKind.i64.wrap (b2 - a1))))
  ((kT (IntKind.i64.wrap (b2 - a1))).bind fun x3 =>
  bD ((4 : Int) ≠ 0) <|
  iZ aA a1 (IntKind.i64.wrap (b2 - a1)) (IntKind.u64.wrap (IntKind.i64.wrap (b2 - a1))) x3 (IntKind.i64.wrap ((IntKind.i64.wrap (a1 + (IntKind.i64.wrap ((IntKind.i64.wrap (Int.tdiv (IntKind.i64.wrap (b2 - a1)) (4 : Int))) * (2 : Int))))) - (1 : Int))))
  (some aA)

noncomputable def fQ (aA : (List Int)) (a1 : Int) (b2 : Int) (qZ : Int) : Option ((Int × Int) × Int) :=
  bD (0 ≤ b2 ∧ b2 < ((List.length aA : Nat) : Int)) <|
  bD (0 ≤ a1 ∧ a1 < ((List.length aA : Nat) : Int)) <|
  (cY (List.getD aA (Int.toNat b2) default) (List.getD aA (Int.toNat a1) default)).bind fun x3 =>
  cond x3
  (some ((b2, a1), IntKind.i64.wrap (qZ + (1 : Int))))
  (some ((a1, b2), qZ))

noncomputable def iG (aA : (List Int)) (a1 : Int) (b2 : Int) (c3 : Int) (EY : Int) : Option (Int × Int) :=
  (fQ aA a1 b2 EY).bind fun x1 =>
  (fQ aA x1.1.2 c3 x1.2).bind fun x6 =>
  (fQ aA x1.1.1 x6.1.1 x6.2).bind fun x11 =>
  some (x11.1.2, x11.2)

noncomputable def dR (aA : (List Int)) (a1 : Int) (DZ : Int) : Option (Int × Int) :=
  (iG aA (IntKind.i64.wrap (a1 - (1 : Int))) a1 (IntKind.i64.wrap (a1 + (1 : Int))) DZ).bind fun x1 =>
  some (x1.1, x1.2)

noncomputable def eZ (aA : List Int) (lY : Int) (j11 : Int) : Option (Int × Int) :=
  cond (decide (lY = (0 : Int)))
  (some (j11, (1 : Int)))
  (cond (decide (lY = (12 : Int)))
  (some (j11, (2 : Int)))
  (some (j11, (0 : Int))))

noncomputable def fA (aA : List Int) (lY : Int) (i10 : Int) (j11 : Int) (k12 : Int) : Option (Int × Int) :=
  (iG aA i10 j11 k12 lY).bind fun x8 =>
  eZ aA x8.2 x8.1

noncomputable def iB (aA : (List Int)) (a1 : Int) (b2 : Int) : Option (Int × Int) :=
  bD ((4 : Int) ≠ 0) <|
  bD ((4 : Int) ≠ 0) <|
  bD ((4 : Int) ≠ 0) <|
  cond (decide ((8 : Int) ≤ (IntKind.i64.wrap (b2 - a1))))
  (cond (decide ((50 : Int) ≤ (IntKind.i64.wrap (b2 - a1))))
  ((dR aA (IntKind.i64.wrap (a1 + (IntKind.i64.wrap ((IntKind.i64.wrap (Int.tdiv (IntKind.i64.wrap (b2 - a1)) (4 : Int))) * (1 : Int))))) 0).bind fun x14 =>
  (dR aA (IntKind.i64.wrap (a1 + (IntKind.i64.wrap ((IntKind.i64.wrap (Int.tdiv (IntKind.i64.wrap (b2 - a1)) (4 : Int))) * (2 : Int))))) x14.2).bind fun x19 =>
  (dR aA (IntKind.i64.wrap (a1 + (IntKind.i64.wrap ((IntKind.i64.wrap (Int.tdiv (IntKind.i64.wrap (b2 - a1)) (4 : Int))) * (3 : Int))))) x19.2).bind fun x24 =>
  fA aA x24.2 x14.1 x19.1 x24.1)
  (fA aA 0 (IntKind.i64.wrap (a1 + (IntKind.i64.wrap ((IntKind.i64.wrap (Int.tdiv (IntKind.i64.wrap (b2 - a1)) (4 : Int))) * (1 : Int))))) (IntKind.i64.wrap (a1 + (IntKind.i64.wrap ((IntKind.i64.wrap (Int.tdiv (IntKind.i64.wrap (b2 - a1)) (4 : Int))) * (2 : Int))))) (IntKind.i64.wrap (a1 + (IntKind.i64.wrap ((IntKind.i64.wrap (Int.tdiv (IntKind.i64.wrap (b2 - a1)) (4 : Int))) * (3 : Int)))))))
  (eZ aA 0 (IntKind.i64.wrap (a1 + (IntKind.i64.wrap ((IntKind.i64.wrap (Int.tdiv (IntKind.i64.wrap (b2 - a1)) (4 : Int))) * (2 : Int))))))

noncomputable def dB  (aA : List Int) (i6 : Int) (j7 : Int) : Option ((List Int × Int × Int) ⊕ ((List Int))) :=
  cond (decide (i6 < j7))
  (bD (0 ≤ j7 ∧ j7 < ((List.length aA : Nat) : Int)) <|
  bD (0 ≤ i6 ∧ i6 < ((List.length aA : Nat) : Int)) <|
  bD (0 ≤ i6 ∧ i6 < ((List.length aA : Nat) : Int)) <|
  bD (0 ≤ j7 ∧ j7 < ((List.length aA : Nat) : Int)) <|
  some (.inl (List.set (List.set aA (Int.toNat i6) (List.getD aA (Int.toNat j7) default)) (Int.toNat j7) (List.getD aA (Int.toNat i6) default), IntKind.i64.wrap (i6 + (1 : Int)), IntKind.i64.wrap (j7 - (1 : Int)))))
  (some (.inr aA))

noncomputable def jG (aA : List Int) (i6 : Int) (j7 : Int) : Option (List Int) :=
  (lp (fun s => dB s.1 s.2.1 s.2.2) (aA, i6, j7)).bind (fun rr => some rr)

noncomputable def gY (aA : (List Int)) (a1 : Int) (b2 : Int) : Option (List Int) :=
  jG aA a1 (IntKind.i64.wrap (b2 - (1 : Int)))

noncomputable def eF (aA : List Int) : Option (Bool × List Int) :=
  some (false, aA)

noncomputable def dK (aA : List Int) (a1 : Int) (b2 : Int) (i7 : Int) (j8 : Int) : Option ((List Int × Int × Int) ⊕ ((List Int) ⊕ (Bool × (List Int)))) :=
  some (.inl (aA, i7, IntKind.i64.wrap (j8 + (1 : Int))))

noncomputable def cM (a1 : Int) (b2 : Int) (i7 : Int) (j8 : Int) (aA : List Int) (j10 : Int) : Option ((List Int × Int) ⊕ ((List Int))) :=
  cond (decide (j10 < b2))
  (bD (0 ≤ j10 ∧ j10 < ((List.length aA : Nat) : Int)) <|
  bD (0 ≤ (IntKind.i64.wrap (j10 - (1 : Int))) ∧ (IntKind.i64.wrap (j10 - (1 : Int))) < ((List.length aA : Nat) : Int)) <|
  (cY (List.getD aA (Int.toNat j10) default) (List.getD aA (Int.toNat (IntKind.i64.wrap (j10 - (1 : Int)))) default)).bind fun x12 =>
  cond (!x12)
  (some (.inr aA))
  (bD (0 ≤ (IntKind.i64.wrap (j10 - (1 : Int))) ∧ (IntKind.i64.wrap (j10 - (1 : Int))) < ((List.length aA : Nat) : Int)) <|
  bD (0 ≤ j10 ∧ j10 < ((List.length aA : Nat) : Int)) <|
  bD (0 ≤ j10 ∧ j10 < ((List.length aA : Nat) : Int)) <|
  bD (0 ≤ (IntKind.i64.wrap (j10 - (1 : Int))) ∧ (IntKind.i64.wrap (j10 - (1 : Int))) < ((List.length aA : Nat) : Int)) <|
  some (.inl (List.set (List.set aA (Int.toNat j10) (List.getD aA (Int.toNat (IntKind.i64.wrap (j10 - (1 : Int)))) default)) (Int.toNat (IntKind.i64.wrap (j10 - (1 : Int)))) (List.getD aA (Int.toNat j10) default), IntKind.i64.wrap (j10 + (1 : Int))))))
  (some (.inr aA))

noncomputable def fV (aA : List Int) (a1 : Int) (b2 : Int) (i7 : Int) (j8 : Int) (j10 : Int) : Option ((List Int × Int × Int) ⊕ ((List Int) ⊕ (Bool × (List Int)))) :=
  (lp (fun s => cM a1 b2 i7 j8 s.1 s.2) (aA, j10)).bind (fun rr => dK rr a1 b2 i7 j8)

noncomputable def cF (aA : List Int) (a1 : Int) (b2 : Int) (i7 : Int) (j8 : Int) : Option ((List Int × Int × Int) ⊕ ((List Int) ⊕ (Bool × (List Int)))) :=
  cond (decide ((2 : Int) ≤ (IntKind.i64.wrap (b2 - i7))))
  (fV aA a1 b2 i7 j8 (IntKind.i64.wrap (i7 + (1 : Int))))
  (dK aA a1 b2 i7 j8)

noncomputable def cE (a1 : Int) (b2 : Int) (i7 : Int) (j8 : Int) (aA : List Int) (j9 : Int) : Option ((List Int × Int) ⊕ ((List Int))) :=
  cond (decide ((1 : Int) ≤ j9))
  (bD (0 ≤ j9 ∧ j9 < ((List.length aA : Nat) : Int)) <|
  bD (0 ≤ (IntKind.i64.wrap (j9 - (1 : Int))) ∧ (IntKind.i64.wrap (j9 - (1 : Int))) < ((List.length aA : Nat) : Int)) <|
  (cY (List.getD aA (Int.toNat j9) default) (List.getD aA (Int.toNat (IntKind.i64.wrap (j9 - (1 : Int)))) default)).bind fun x24 =>
  cond (!x24)
  (some (.inr aA))
  (bD (0 ≤ (IntKind.i64.wrap (j9 - (1 : Int))) ∧ (IntKind.i64.wrap (j9 - (1 : Int))) < ((List.length aA : Nat) : Int)) <|
  bD (0 ≤ j9 ∧ j9 < ((List.length aA : Nat) : Int)) <|
  bD (0 ≤ j9 ∧ j9 < ((List.length aA : Nat) : Int)) <|
  bD (0 ≤ (IntKind.i64.wrap (j9 - (1 : Int))) ∧ (IntKind.i64.wrap (j9 - (1 : Int))) < ((List.length aA : Nat) : Int)) <|
  some (.inl (List.set (List.set aA (Int.toNat j9) (List.getD aA (Int.toNat (IntKind.i64.wrap (j9 - (1 : Int)))) default)) (Int.toNat (IntKind.i64.wrap (j9 - (1 : Int)))) (List.getD aA (Int.toNat j9) default), IntKind.i64.wrap (j9 - (1 : Int))))))
  (some (.inr aA))

noncomputable def fU (aA : List Int) (a1 : Int) (b2 : Int) (i7 : Int) (j8 : Int) (j9 : Int) : Option ((List Int × Int × Int) ⊕ ((List Int) ⊕ (Bool × (List Int)))) :=
  (lp (fun s => cE a1 b2 i7 j8 s.1 s.2) (aA, j9)).bind (fun rr => cF rr a1 b2 i7 j8)

noncomputable def eE (aA : List Int) (a1 : Int) (b2 : Int) (i7 : Int) (j8 : Int) : Option ((List Int × Int × Int) ⊕ ((List Int) ⊕ (Bool × (List Int)))) :=
  cond (decide (i7 = b2))
  (some (.inr (.inr (true, aA))))
  (cond (decide ((IntKind.i64.wrap (b2 - a1)) < (50 : Int)))
  (some (.inr (.inr (false, aA))))
  (bD (0 ≤ (IntKind.i64.wrap (i7 - (1 : Int))) ∧ (IntKind.i64.wrap (i7 - (1 : Int))) < ((List.length aA : Nat) : Int)) <|
  bD (0 ≤ i7 ∧ i7 < ((List.length aA : Nat) : Int)) <|
  bD (0 ≤ i7 ∧ i7 < ((List.length aA : Nat) : Int)) <|
  bD (0 ≤ (IntKind.i64.wrap (i7 - (1 : Int))) ∧ (IntKind.i64.wrap (i7 - (1 : Int))) < ((List.length aA : Nat) : Int)) <|
  cond (decide ((2 : Int) ≤ (IntKind.i64.wrap (i7 - a1))))
  (fU (List.set (List.set aA (Int.toNat i7) (List.getD aA (Int.toNat (IntKind.i64.wrap (i7 - (1 : Int)))) default)) (Int.toNat (IntKind.i64.wrap (i7 - (1 : Int)))) (List.getD aA (Int.toNat i7) default)) a1 b2 i7 j8 (IntKind.i64.wrap (i7 - (1 : Int))))
  (cF (List.set (List.set aA (Int.toNat i7) (List.getD aA (Int.toNat (IntKind.i64.wrap (i7 - (1 : Int)))) default)) (Int.toNat (IntKind.i64.wrap (i7 - (1 : Int)))) (List.getD aA (Int.toNat i7) default)) a1 b2 i7 j8)))

noncomputable def cL (a1 : Int) (b2 : Int) (j8 : Int) (aA : List Int) (i7 : Int) : Option ((List Int × Int) ⊕ ((List Int × Int))) :=
  bD ((((decide (i7 < b2))) = true → 0 ≤ i7 ∧ i7 < ((List.length aA : Nat) : Int))) <|
  bD ((((decide (i7 < b2))) = true → 0 ≤ (IntKind.i64.wrap (i7 - (1 : Int))) ∧ (IntKind.i64.wrap (i7 - (1 : Int))) < ((List.length aA : Nat) : Int))) <|
  (cW (decide (i7 < b2)) (cY (List.getD aA (Int.toNat i7) default) (List.getD aA (Int.toNat (IntKind.i64.wrap (i7 - (1 : Int)))) default))).bind fun x34 =>
  cond ((decide (i7 < b2)) && (!x34))
  (some (.inl (aA, IntKind.i64.wrap (i7 + (1 : Int)))))
  (some (.inr (aA, i7)))

noncomputable def cT (aA : List Int) (a1 : Int) (b2 : Int) (i7 : Int) (j8 : Int) : Option ((List Int × Int × Int) ⊕ ((List Int) ⊕ (Bool × (List Int)))) :=
  (lp (fun s => cL a1 b2 j8 s.1 s.2) (aA, i7)).bind (fun rr => eE rr.1 a1 b2 rr.2 j8)

noncomputable def bS (a1 : Int) (b2 : Int) (aA : List Int) (i7 : Int) (j8 : Int) : Option ((List Int × Int × Int) ⊕ ((List Int) ⊕ (Bool × (List Int)))) :=
  cond (decide (j8 < (5 : Int)))
  (cT aA a1 b2 i7 j8)
  (some (.inr (.inl aA)))

noncomputable def fW (aA : List Int) (a1 : Int) (b2 : Int) (i7 : Int) (j8 : Int) : Option (Bool × List Int) :=
  (lp (fun s => bS a1 b2 s.1 s.2.1 s.2.2) (aA, i7, j8)).bind (Sum.elim (fun rr => eF rr) (fun rr => some (rr.1, rr.2)))

noncomputable def eH (aA : (List Int)) (a1 : Int) (b2 : Int) : Option (Bool × List Int) :=
  fW aA a1 b2 (IntKind.i64.wrap (a1 + (1 : Int))) (0 : Int)

noncomputable def iT (aA : List Int) (i9 : Int) : Option (Int × List Int) :=
  some (i9, aA)

noncomputable def dP (aA : List Int) (a1 : Int) (i9 : Int) (j10 : Int) : Option ((List Int × Int × Int) ⊕ ((List Int × Int))) :=
  cond (decide (j10 < i9))
  (some (.inr (aA, i9)))
  (bD (0 ≤ j10 ∧ j10 < ((List.length aA : Nat) : Int)) <|
  bD (0 ≤ i9 ∧ i9 < ((List.length aA : Nat) : Int)) <|
  bD (0 ≤ i9 ∧ i9 < ((List.length aA : Nat) : Int)) <|
  bD (0 ≤ j10 ∧ j10 < ((List.length aA : Nat) : Int)) <|
  some (.inl (List.set (List.set aA (Int.toNat i9) (List.getD aA (Int.toNat j10) default)) (Int.toNat j10) (List.getD aA (Int.toNat i9) default), IntKind.i64.wrap (i9 + (1 : Int)), IntKind.i64.wrap (j10 - (1 : Int)))))

noncomputable def dN (a1 : Int) (i9 : Int) (aA : List Int) (j10 : Int) : Option ((List Int × Int) ⊕ ((List Int × Int))) :=
  bD ((((decide (i9 ≤ j10))) = true → 0 ≤ a1 ∧ a1 < ((List.length aA : Nat) : Int))) <|
  bD ((((decide (i9 ≤ j10))) = true → 0 ≤ j10 ∧ j10 < ((List.length aA : Nat) : Int))) <|
  (cW (decide (i9 ≤ j10)) (cY (List.getD aA (Int.toNat a1) default) (List.getD aA (Int.toNat j10) default))).bind fun x12 =>
  cond ((decide (i9 ≤ j10)) && x12)
  (some (.inl (aA, IntKind.i64.wrap (j10 - (1 : Int)))))
  (some (.inr (aA, j10)))

noncomputable def iR (aA : List Int) (a1 : Int) (i9 : Int) (j10 : Int) : Option ((List Int × Int × Int) ⊕ ((List Int × Int))) :=
  (lp (fun s => dN a1 i9 s.1 s.2) (aA, j10)).bind (fun rr => dP rr.1 a1 i9 rr.2)

noncomputable def fP (aA : List Int) (a1 : Int) (i9 : Int) (j10 : Int) : Option ((List Int × Int × Int) ⊕ ((List Int × Int))) :=
  iR aA a1 i9 j10

noncomputable def dL (a1 : Int) (j10 : Int) (aA : List Int) (i9 : Int) : Option ((List Int × Int) ⊕ ((List Int × Int))) :=
  bD ((((decide (i9 ≤ j10))) = true → 0 ≤ a1 ∧ a1 < ((List.length aA : Nat) : Int))) <|
  bD ((((decide (i9 ≤ j10))) = true → 0 ≤ i9 ∧ i9 < ((List.length aA : Nat) : Int))) <|
  (cW (decide (i9 ≤ j10)) (cY (List.getD aA (Int.toNat a1) default) (List.getD aA (Int.toNat i9) default))).bind fun x18 =>
  cond ((decide (i9 ≤ j10)) && (!x18))
  (some (.inl (aA, IntKind.i64.wrap (i9 + (1 : Int)))))
  (some (.inr (aA, i9)))

noncomputable def iU (aA : List Int) (a1 : Int) (i9 : Int) (j10 : Int) : Option ((List Int × Int × Int) ⊕ ((List Int × Int))) :=
  (lp (fun s => dL a1 j10 s.1 s.2) (aA, i9)).bind (fun rr => fP rr.1 a1 rr.2 j10)

noncomputable def cO (a1 : Int) (aA : List Int) (i9 : Int) (j10 : Int) : Option ((List Int × Int × Int) ⊕ ((List Int × Int))) :=
  iU aA a1 i9 j10

noncomputable def iV (aA : List Int) (a1 : Int) (i9 : Int) (j10 : Int) : Option (Int × List Int) :=
  (lp (fun s => cO a1 s.1 s.2.1 s.2.2) (aA, i9, j10)).bind (fun rr => iT rr.1 rr.2)

noncomputable def eR (aA : (List Int)) (a1 : Int) (b2 : Int) (cG : Int) : Option (Int × List Int) :=
  bD (0 ≤ cG ∧ cG < ((List.length aA : Nat) : Int)) <|
  bD (0 ≤ a1 ∧ a1 < ((List.length aA : Nat) : Int)) <|
  bD (0 ≤ a1 ∧ a1 < ((List.length aA : Nat) : Int)) <|
  bD (0 ≤ cG ∧ cG < ((List.length aA : Nat) : Int)) <|
  iV (List.set (List.set aA (Int.toNat a1) (List.getD aA (Int.toNat cG) default)) (Int.toNat cG) (List.getD aA (Int.toNat a1) default)) a1 (IntKind.i64.wrap (a1 + (1 : Int))) (IntKind.i64.wrap (b2 - (1 : Int)))

noncomputable def iI (aA : List Int) (a1 : Int) (j11 : Int) : Option ((Int × Bool) × List Int) :=
  bD (0 ≤ a1 ∧ a1 < ((List.length aA : Nat) : Int)) <|
  bD (0 ≤ j11 ∧ j11 < ((List.length aA : Nat) : Int)) <|
  bD (0 ≤ j11 ∧ j11 < ((List.length aA : Nat) : Int)) <|
  bD (0 ≤ a1 ∧ a1 < ((List.length aA : Nat) : Int)) <|
  some ((j11, false), (List.set (List.set aA (Int.toNat j11) (List.getD aA (Int.toNat a1) default)) (Int.toNat a1) (List.getD aA (Int.toNat j11) default)))

noncomputable def eO (aA : List Int) (a1 : Int) (i10 : Int) (j11 : Int) : Option ((List Int × Int × Int) ⊕ ((List Int × Int))) :=
  cond (decide (j11 < i10))
  (some (.inr (aA, j11)))
  (bD (0 ≤ j11 ∧ j11 < ((List.length aA : Nat) : Int)) <|
  bD (0 ≤ i10 ∧ i10 < ((List.length aA : Nat) : Int)) <|
  bD (0 ≤ i10 ∧ i10 < ((List.length aA : Nat) : Int)) <|
  bD (0 ≤ j11 ∧ j11 < ((List.length aA : Nat) : Int)) <|
  some (.inl (List.set (List.set aA (Int.toNat i10) (List.getD aA (Int.toNat j11) default)) (Int.toNat j11) (List.getD aA (Int.toNat i10) default), IntKind.i64.wrap (i10 + (1 : Int)), IntKind.i64.wrap (j11 - (1 : Int)))))

noncomputable def eN (a1 : Int) (i10 : Int) (aA : List Int) (j11 : Int) : Option ((List Int × Int) ⊕ ((List Int × Int))) :=
  bD ((((decide (i10 ≤ j11))) = true → 0 ≤ j11 ∧ j11 < ((List.length aA : Nat) : Int))) <|
  bD ((((decide (i10 ≤ j11))) = true → 0 ≤ a1 ∧ a1 < ((List.length aA : Nat) : Int))) <|
  (cW (decide (i10 ≤ j11)) (cY (List.getD aA (Int.toNat j11) default) (List.getD aA (Int.toNat a1) default))).bind fun x25 =>
  cond ((decide (i10 ≤ j11)) && (!x25))
  (some (.inl (aA, IntKind.i64.wrap (j11 - (1 : Int)))))
  (some (.inr (aA, j11)))

noncomputable def jW (aA : List Int) (a1 : Int) (i10 : Int) (j11 : Int) : Option ((List Int × Int × Int) ⊕ ((List Int × Int))) :=
  (lp (fun s => eN a1 i10 s.1 s.2) (aA, j11)).bind (fun rr => eO rr.1 a1 i10 rr.2)

noncomputable def iM (aA : List Int) (a1 : Int) (i10 : Int) (j11 : Int) : Option ((List Int × Int × Int) ⊕ ((List Int × Int))) :=
  jW aA a1 i10 j11

noncomputable def eM (a1 : Int) (j11 : Int) (aA : List Int) (i10 : Int) : Option ((List Int × Int) ⊕ ((List Int × Int))) :=
  bD ((((decide (i10 ≤ j11))) = true → 0 ≤ i10 ∧ i10 < ((List.length aA : Nat) : Int))) <|
  bD ((((decide (i10 ≤ j11))) = true → 0 ≤ a1 ∧ a1 < ((List.length aA : Nat) : Int))) <|
  (cW (decide (i10 ≤ j11)) (cY (List.getD aA (Int.toNat i10) default) (List.getD aA (Int.toNat a1) default))).bind fun x31 =>
  cond ((decide (i10 ≤ j11)) && x31)
  (some (.inl (aA, IntKind.i64.wrap (i10 + (1 : Int)))))
  (some (.inr (aA, i10)))

noncomputable def jU (aA : List Int) (a1 : Int) (i10 : Int) (j11 : Int) : Option ((List Int × Int × Int) ⊕ ((List Int × Int))) :=
  (lp (fun s => eM a1 j11 s.1 s.2) (aA, i10)).bind (fun rr => iM rr.1 a1 rr.2 j11)

noncomputable def dA (a1 : Int) (aA : List Int) (i10 : Int) (j11 : Int) : Option ((List Int × Int × Int) ⊕ ((List Int × Int))) :=
  jU aA a1 i10 j11

noncomputable def jY (aA : List Int) (a1 : Int) (i10 : Int) (j11 : Int) : Option ((Int × Bool) × List Int) :=
  (lp (fun s => dA a1 s.1 s.2.1 s.2.2) (aA, i10, j11)).bind (fun rr => iI rr.1 a1 rr.2)

noncomputable def eG (aA : List Int) (a1 : Int) (i10 : Int) (j11 : Int) : Option ((Int × Bool) × List Int) :=
  cond (decide (j11 < i10))
  (bD (0 ≤ a1 ∧ a1 < ((List.length aA : Nat) : Int)) <|
  bD (0 ≤ j11 ∧ j11 < ((List.length aA : Nat) : Int)) <|
  bD (0 ≤ j11 ∧ j11 < ((List.length aA : Nat) : Int)) <|
  bD (0 ≤ a1 ∧ a1 < ((List.length aA : Nat) : Int)) <|
  some ((j11, true), (List.set (List.set aA (Int.toNat j11) (List.getD aA (Int.toNat a1) default)) (Int.toNat a1) (List.getD aA (Int.toNat j11) default))))
  (bD (0 ≤ j11 ∧ j11 < ((List.length aA : Nat) : Int)) <|
  bD (0 ≤ i10 ∧ i10 < ((List.length aA : Nat) : Int)) <|
  bD (0 ≤ i10 ∧ i10 < ((List.length aA : Nat) : Int)) <|
  bD (0 ≤ j11 ∧ j11 < ((List.length aA : Nat) : Int)) <|
  jY (List.set (List.set aA (Int.toNat i10) (List.getD aA (Int.toNat j11) default)) (Int.toNat j11) (List.getD aA (Int.toNat i10) default)) a1 (IntKind.i64.wrap (i10 + (1 : Int))) (IntKind.i64.wrap (j11 - (1 : Int))))

noncomputable def eJ (a1 : Int) (i10 : Int) (aA : List Int) (j11 : Int) : Option ((List Int × Int) ⊕ ((List Int × Int))) :=
  bD ((((decide (i10 ≤ j11))) = true → 0 ≤ j11 ∧ j11 < ((List.length aA : Nat) : Int))) <|
  bD ((((decide (i10 ≤ j11))) = true → 0 ≤ a1 ∧ a1 < ((List.length aA : Nat) : Int))) <|
  (cW (decide (i10 ≤ j11)) (cY (List.getD aA (Int.toNat j11) default) (List.getD aA (Int.toNat a1) default))).bind fun x37 =>
  cond ((decide (i10 ≤ j11)) && (!x37))
  (some (.inl (aA, IntKind.i64.wrap (j11 - (1 : Int)))))
  (some (.inr (aA, j11)))

noncomputable def jX (aA : List Int) (a1 : Int) (i10 : Int) (j11 : Int) : Option ((Int × Bool) × List Int) :=
  (lp (fun s => eJ a1 i10 s.1 s.2) (aA, j11)).bind (fun rr => eG rr.1 a1 i10 rr.2)

noncomputable def iK (aA : List Int) (a1 : Int) (i10 : Int) (j11 : Int) : Option ((Int × Bool) × List Int) :=
  jX aA a1 i10 j11

noncomputable def eD (a1 : Int) (j11 : Int) (aA : List Int) (i10 : Int) : Option ((List Int × Int) ⊕ ((List Int × Int))) :=
  bD ((((decide (i10 ≤ j11))) = true → 0 ≤ i10 ∧ i10 < ((List.length aA : Nat) : Int))) <|
  bD ((((decide (i10 ≤ j11))) = true → 0 ≤ a1 ∧ a1 < ((List.length aA : Nat) : Int))) <|
  (cW (decide (i10 ≤ j11)) (cY (List.getD aA (Int.toNat i10) default) (List.getD aA (Int.toNat a1) default))).bind fun x43 =>
  cond ((decide (i10 ≤ j11)) && x43)
  (some (.inl (aA, IntKind.i64.wrap (i10 + (1 : Int)))))
  (some (.inr (aA, i10)))

noncomputable def fG (aA : List Int) (a1 : Int) (i10 : Int) (j11 : Int) : Option ((Int × Bool) × List Int) :=
  (lp (fun s => eD a1 j11 s.1 s.2) (aA, i10)).bind (fun rr => iK rr.1 a1 rr.2 j11)

noncomputable def gF (aA : (List Int)) (a1 : Int) (b2 : Int) (cG : Int) : Option ((Int × Bool) × List Int) :=
  bD (0 ≤ cG ∧ cG < ((List.length aA : Nat) : Int)) <|
  bD (0 ≤ a1 ∧ a1 < ((List.length aA : Nat) : Int)) <|
  bD (0 ≤ a1 ∧ a1 < ((List.length aA : Nat) : Int)) <|
  bD (0 ≤ cG ∧ cG < ((List.length aA : Nat) : Int)) <|
  fG (List.set (List.set aA (Int.toNat a1) (List.getD aA (Int.toNat cG) default)) (Int.toNat cG) (List.getD aA (Int.toNat a1) default)) a1 (IntKind.i64.wrap (a1 + (1 : Int))) (IntKind.i64.wrap (b2 - (1 : Int)))

noncomputable def gQ (rec : (List Int) → Int → Int → Int → Option (List Int)) (aA : List Int) (a1 : Int) (b2 : Int) (bU : Int) (bR : Bool) (bL : Bool) (dS : Int) (fO : Int) : Option ((List Int × Int × Int × Int × Bool × Bool) ⊕ ((List Int))) :=
  bD ((((decide ((0 : Int) < a1))) = true → 0 ≤ (IntKind.i64.wrap (a1 - (1 : Int))) ∧ (IntKind.i64.wrap (a1 - (1 : Int))) < ((List.length aA : Nat) : Int))) <|
  bD ((((decide ((0 : Int) < a1))) = true → 0 ≤ fO ∧ fO < ((List.length aA : Nat) : Int))) <|
  (cW (decide ((0 : Int) < a1)) (cY (List.getD aA (Int.toNat (IntKind.i64.wrap (a1 - (1 : Int)))) default) (List.getD aA (Int.toNat fO) default))).bind fun x16 =>
  cond ((decide ((0 : Int) < a1)) && (!x16))
  ((eR aA a1 b2 fO).bind fun x20 =>
  some (.inl (x20.2, x20.1, b2, bU, bR, bL)))
  ((gF aA a1 b2 fO).bind fun x23 =>
  bD ((8 : Int) ≠ 0) <|
  cond (decide ((IntKind.i64.wrap (x23.1.1 - a1)) < (IntKind.i64.wrap (b2 - x23.1.1))))
  ((rec x23.2 a1 x23.1.1 bU).bind fun x28 =>
  some (.inl (x28, IntKind.i64.wrap (x23.1.1 + (1 : Int)), b2, bU, decide ((IntKind.i64.wrap (Int.tdiv dS (8 : Int))) ≤ (IntKind.i64.wrap (x23.1.1 - a1))), x23.1.2)))
  ((rec x23.2 (IntKind.i64.wrap (x23.1.1 + (1 : Int))) b2 bU).bind fun x31 =>
  some (.inl (x31, a1, x23.1.1, bU, decide ((IntKind.i64.wrap (Int.tdiv dS (8 : Int))) ≤ (IntKind.i64.wrap (b2 - x23.1.1))), x23.1.2))))

noncomputable def gS (rec : (List Int) → Int → Int → Int → Option (List Int)) (aA : List Int) (a1 : Int) (b2 : Int) (bU : Int) (bR : Bool) (bL : Bool) (dS : Int) (fO : Int) (BF : Int) : Option ((List Int × Int × Int × Int × Bool × Bool) ⊕ ((List Int))) :=
  cond ((bR && bL) && (decide (BF = (1 : Int))))
  ((eH aA a1 b2).bind fun x35 =>
  cond x35.1
  (some (.inr x35.2))
  (gQ rec x35.2 a1 b2 bU bR bL dS fO))
  (gQ rec aA a1 b2 bU bR bL dS fO)

noncomputable def gU (rec : (List Int) → Int → Int → Int → Option (List Int)) (aA : List Int) (a1 : Int) (b2 : Int) (bU : Int) (bR : Bool) (bL : Bool) (dS : Int) : Option ((List Int × Int × Int × Int × Bool × Bool) ⊕ ((List Int))) :=
  (iB aA a1 b2).bind fun x9 =>
  cond (decide (x9.2 = (2 : Int)))
  ((gY aA a1 b2).bind fun x40 =>
  gS rec x40 a1 b2 bU bR bL dS (IntKind.i64.wrap ((IntKind.i64.wrap (b2 - (1 : Int))) - (IntKind.i64.wrap (x9.1 - a1)))) (1 : Int))
  (gS rec aA a1 b2 bU bR bL dS x9.1 x9.2)

noncomputable def dZ (rec : (List Int) → Int → Int → Int → Option (List Int))  (aA : List Int) (a1 : Int) (b2 : Int) (bU : Int) (bR : Bool) (bL : Bool) : Option ((List Int × Int × Int × Int × Bool × Bool) ⊕ ((List Int))) :=
  cond (decide ((IntKind.i64.wrap (b2 - a1)) ≤ (12 : Int)))
  ((gM aA a1 b2).bind fun x2 =>
  some (.inr x2))
  (cond (decide (bU = (0 : Int)))
  ((jF aA a1 b2).bind fun x6 =>
  some (.inr x6))
  (cond (!bR)
  ((gL aA a1 b2).bind fun x44 =>
  gU rec x44 a1 b2 (IntKind.i64.wrap (bU - (1 : Int))) bR bL (IntKind.i64.wrap (b2 - a1)))
  (gU rec aA a1 b2 bU bR bL (IntKind.i64.wrap (b2 - a1)))))

noncomputable def kN (rec : (List Int) → Int → Int → Int → Option (List Int)) (aA : List Int) (a1 : Int) (b2 : Int) (bU : Int) (bR : Bool) (bL : Bool) : Option (List Int) :=
  (lp (fun s => dZ rec s.1 s.2.1 s.2.2.1 s.2.2.2.1 s.2.2.2.2.1 s.2.2.2.2.2) (aA, a1, b2, bU, bR, bL)).bind (fun rr => some rr)

noncomputable def fK (rec : (List Int) → Int → Int → Int → Option (List Int)) (aA : (List Int)) (a1 : Int) (b2 : Int) (bU : Int) : Option (List Int) :=
  kN rec aA a1 b2 bU true true

noncomputable def cX  : Nat → (List Int) → Int → Int → Int → Option (List Int)
  | 0 => fun _ _ _ _ => none
  | k + 1 => fK (cX k)

noncomputable def jI (aA : (List Int)) (a1 : Int) (b2 : Int) (bU : Int) : Option (List Int) := PD (fun k => cX k aA a1 b2 bU)

noncomputable def kD (x0 : (List Int)) : Option (List Int) :=
  (kA (IntKind.u64.wrap ((List.length x0 : Nat) : Int))).bind fun x1 =>
  (jI x0 (0 : Int) ((List.length x0 : Nat) : Int) x1).bind fun x4 =>
  some x4

noncomputable def xI (f0 : (List aB)) : Option ((List aB)) :=
  some f0

noncomputable def mM {σ : Type} (cJ : σ → bJ → Option (σ × Bool)) (sg : σ) (n3 : Int) (jQ : Int) : Option σ :=
  cond (decide ((0 : Int) < n3))
  ((cJ sg (bJ.mk jQ (1125899906842624 : Int))).bind fun x2 =>
  some x2.1)
  (some sg)

noncomputable def lM {σ : Type} (cJ : σ → bJ → Option (σ × Bool)) (sg : σ) (n3 : Int) (jQ : Int) (j6 : aB) (t7 : (List aB)) (t8 : Int) (t9 : Int) : Option ((σ × Int × Int × Int) ⊕ ((σ × Int × Int) ⊕ σ)) :=
  (DP (decide ((IntKind.i64.wrap (n3 + j6.Net)) = (0 : Int))) sg (cJ sg (bJ.mk jQ j6.At))).bind fun (x10, x11) =>
  cond ((decide ((IntKind.i64.wrap (n3 + j6.Net)) = (0 : Int))) && (!x11))
  (some (.inr (.inr x10)))
  (some (.inl (x10, IntKind.i64.wrap (n3 + j6.Net), jQ, IntKind.i64.wrap (t9 + (1 : Int)))))

noncomputable def fR {σ : Type} (cJ : σ → bJ → Option (σ × Bool)) (t7 : (List aB)) (t8 : Int) (sg : σ) (n3 : Int) (jQ : Int) (t9 : Int) : Option ((σ × Int × Int × Int) ⊕ ((σ × Int × Int) ⊕ σ)) :=
  cond (decide (t9 < t8))
  (bD (0 ≤ t9 ∧ t9 < ((List.length t7 : Nat) : Int)) <|
  cond (decide (n3 = (0 : Int)))
  (lM cJ sg n3 ((List.getD t7 (Int.toNat t9) default).At) (List.getD t7 (Int.toNat t9) default) t7 t8 t9)
  (lM cJ sg n3 jQ (List.getD t7 (Int.toNat t9) default) t7 t8 t9))
  (some (.inr (.inl (sg, n3, jQ))))

noncomputable def qV {σ : Type} (cJ : σ → bJ → Option (σ × Bool)) (sg : σ) (n3 : Int) (jQ : Int) (t7 : (List aB)) (t8 : Int) (t9 : Int) : Option σ :=
  (lp (fun s => fR cJ t7 t8 s.1 s.2.1 s.2.2.1 s.2.2.2) (sg, n3, jQ, t9)).bind (Sum.elim (fun rr => mM cJ rr.1 rr.2.1 rr.2.2) (fun rr => some rr))

noncomputable def pF {σ : Type} (cJ : σ → bJ → Option (σ × Bool)) (t1 : (List aB)) (sg0 : σ) : Option σ :=
  qV cJ sg0 (0 : Int) (0 : Int) t1 ((List.length t1 : Nat) : Int) (0 : Int)

noncomputable def tN (v5 : Int) : Option Int :=
  some v5

noncomputable def mU (t1 : Int) (t11 : (List aB)) (t12 : Int) (v5 : Int) (t13 : Int) : Option ((Int × Int) ⊕ (Int)) :=
  cond (decide (t13 < t12))
  (bD (0 ≤ t13 ∧ t13 < ((List.length t11 : Nat) : Int)) <|
  cond (decide (t1 < ((List.getD t11 (Int.toNat t13) default).At)))
  (some (.inr v5))
  (some (.inl (IntKind.i64.wrap (v5 + ((List.getD t11 (Int.toNat t13) default).Net)), IntKind.i64.wrap (t13 + (1 : Int))))))
  (some (.inr v5))

noncomputable def xZ (t1 : Int) (v5 : Int) (t11 : (List aB)) (t12 : Int) (t13 : Int) : Option Int :=
  (lp (fun s => mU t1 t11 t12 s.1 s.2) (v5, t13)).bind (fun rr => tN rr)

noncomputable def xL (f0 : (List aB)) (t1 : Int) : Option Int :=
  (lV f0).bind fun x1 =>
  cond (!x1)
  (some (0 : Int))
  (xZ t1 (0 : Int) f0 ((List.length f0 : Nat) : Int) (0 : Int))

noncomputable def tL (n5 : Int) : Option Int :=
  some n5

noncomputable def nZ (w3 : bJ) (n5 : Int) (t12 : (List aB)) (t13 : Int) (t14 : Int) : Option ((Int × Int) ⊕ (Int)) :=
  some (.inl (n5, IntKind.i64.wrap (t14 + (1 : Int))))

noncomputable def nX (w3 : bJ) (t12 : (List aB)) (t13 : Int) (n5 : Int) (t14 : Int) : Option ((Int × Int) ⊕ (Int)) :=
  cond (decide (t14 < t13))
  (bD (0 ≤ t14 ∧ t14 < ((List.length t12 : Nat) : Int)) <|
  cond ((decide (w3.From < ((List.getD t12 (Int.toNat t14) default).At))) && (decide (((List.getD t12 (Int.toNat t14) default).At) < w3.To)))
  (nZ w3 (IntKind.i64.wrap (n5 + (if (0 : Int) > ((List.getD t12 (Int.toNat t14) default).Net) then (0 : Int) else ((List.getD t12 (Int.toNat t14) default).Net)))) t12 t13 t14)
  (nZ w3 n5 t12 t13 t14))
  (some (.inr n5))

noncomputable def tK (w3 : bJ) (n5 : Int) (t12 : (List aB)) (t13 : Int) (t14 : Int) : Option Int :=
  (lp (fun s => nX w3 t12 t13 s.1 s.2) (n5, t14)).bind (fun rr => tL rr)

noncomputable def rC (f0 : (List aB)) (w1 : bJ) : Option Int :=
  (xL f0 w1.From).bind fun x1 =>
  tK w1 x1 f0 ((List.length f0 : Nat) : Int) (0 : Int)

noncomputable def shP (a b : Nat) (p : aS) : List (Nat × Nat × List V) := [(a, 3, [(.agg [(eI p.Span.From), (eI p.Span.To), (.msl 2 b 0 (List.length p.Rows))])]), (b, 2, List.map cN p.Rows)]

noncomputable def shF (a _b : Nat) (p : aS) : List (Nat × Nat × List V) := [(a, 3, [(aR p)])]

noncomputable def nJ (r : List aE) (f : List aB) (p : aS) : Option aS :=
  bD ((!(decide ((wR ((lN p.Rows) - (1 : Int))) < (0 : Int)))) = true → 0 ≤ (wR ((lN p.Rows) - (1 : Int))) ∧ (wR ((lN p.Rows) - (1 : Int))) < (lN p.Rows)) <|
  (cW (!(decide ((wR ((lN p.Rows) - (1 : Int))) < (0 : Int)))) (qP ((gD p.Rows (wR ((lN p.Rows) - (1 : Int)))).Row) r)).bind fun x1 =>
  cond ((decide ((wR ((lN p.Rows) - (1 : Int))) < (0 : Int))) || (!x1))
  ((qQ r).bind fun x2 =>
  (rC f p.Span).bind fun x3 =>
  bD ((List.length p.Rows + List.length ([dQ.mk x2 x3])) * 32 ≤ 140737488355328 ∧ List.length p.Rows + List.length ([dQ.mk x2 x3]) ≤ 9223372036854775807) <|
  some (aS.mk p.Span (p.Rows ++ [dQ.mk x2 x3])))
  (some p)

noncomputable def mG (r : List aE) (f : List aB) (size : Int) (b : Bool) (m : List (Int × aS)) (t : Int) : Option ((Bool × List (Int × aS)) ⊕ (Bool × List (Int × aS))) :=
  match fE m t with
  | none => cond (decide ((lN m) = (1024 : Int)))
    (some (.inr (false, m)))
    ((nJ r f (aS.mk (bJ.mk t (if (1125899906842624 : Int) < (wR (t + size)) then (1125899906842624 : Int) else (wR (t + size)))) [])).bind fun p => some (.inl (b, gP m t p)))
  | some p => (nJ r f p).bind fun p => some (.inl (b, gP m t p))

noncomputable def nI (r : List aE) (f : List aB) (size hop frm front : Int) (b : Bool) (m : List (Int × aS)) (s : bJ) : Option ((Bool × List (Int × aS)) ⊕ (Bool × List (Int × aS))) :=
  (pV size hop s frm front).bind fun x =>
  (mL (fun st t => rnd (fun (q : Bool × List (Int × aS)) => mG r f size q.1 q.2 t) st) x.1 x.2.1 x.2.2.1 x.2.2.2.1 x.2.2.2.2 (.inl (b, m))).bind (Sum.elim (fun q => some (.inl q)) (fun q => some (.inr q)))

noncomputable def sQ (m : List (Int × aS)) (r : List aE) (f : List aB) (size hop frm front : Int) : Option (Bool × List (Int × aS)) :=
  (xI f).bind fun x =>
  (pF (fun st s => rnd (fun (q : Bool × List (Int × aS)) => nI r f size hop frm front q.1 q.2 s) st) x (.inl (false, m))).bind (Sum.elim (fun q => some (true, q.2)) (fun q => some (q.1, q.2)))

noncomputable def lW (size hop frm front : Int) (t10 : List aS) (t11 : Int) (m : List (Int × aS)) (r : List aE) (f : List aB) : Option ((List aS × Int × List (Int × aS)) ⊕ (List aS × Int × List (Int × aS))) :=
  (sQ m r f size hop frm front).bind fun x =>
  cond (!x.1)
  (some (.inr ([], (7 : Int), x.2)))
  (some (.inl (t10, t11, x.2)))

noncomputable def pT (m : List (Int × aS)) (b : List Int) (n : Int) (out : List aS) (i : Int) : Option ((List aS × Int) ⊕ (List aS)) :=
  cond (decide (i < n))
  (bD (0 ≤ i ∧ i < (lN b)) <|
  match fE m (gD b i) with
  | none => none
  | some p =>
    bD ((List.length out + List.length ([p])) * 40 ≤ 140737488355328 ∧ List.length out + List.length ([p]) ≤ 9223372036854775807) <|
    some (.inl (out ++ [p], wR (i + (1 : Int)))))
  (some (.inr out))

noncomputable def zO (m : List (Int × aS)) (b : List Int) : Option (List aS × Int) :=
  (kD b).bind fun b =>
  bD (0 ≤ (lN b) ∧ (40 : Int) * (lN b) ≤ 281474976710656 ∧ (lN b) ≤ 9223372036854775807) <|
  (lp (fun s => pT m b (lN b) s.1 s.2) (([] : List aS), (0 : Int))).bind fun out => some (out, (0 : Int))

noncomputable def pX (s : List Int) (k : Int) : Option (List Int) :=
  bD ((List.length s + List.length ([k])) * 8 ≤ 140737488355328 ∧ List.length s + List.length ([k]) ≤ 9223372036854775807) <|
  some (s ++ [k])

noncomputable def tC (m : List (Int × aS)) : Option (List aS × Int) :=
  bD (0 ≤ (lN m) ∧ (8 : Int) * (lN m) ≤ 281474976710656 ∧ (lN m) ≤ 9223372036854775807) <|
  sG (m.map (·.1)) (fun q => (dH pX ([] : List Int) q).bind (zO m))

noncomputable def zJ (l : List aM) (size hop frm front : Int) (t10 : List aS) (t11 : Int) : Option (List aS × Int) :=
  (uM l).bind fun x =>
  (nP (fun st r f => rnd (fun (q : List aS × Int × List (Int × aS)) => lW size hop frm front q.1 q.2.1 q.2.2 r f) st) x (.inl (t10, t11, []))).bind (Sum.elim (fun q => tC q.2.2) (fun q => some (q.1, q.2.1)))

noncomputable def pK (l0 : (List aM)) (pE : Int) (hop2 : Int) (iH : Int) (eY : Int) : Option ((List aS) × Int) :=
  (qE pE hop2).bind fun x3 =>
  (cW (!(!x3)) (qI l0)).bind fun x6 =>
  cond ((!x3) || (!x6))
  (some ([], (2 : Int)))
  ((sY l0).bind fun x10 =>
  cond (!x10)
  (some ([], (20 : Int)))
  ((mT iH).bind fun x14 =>
  (cW (!(!x14)) (mT eY)).bind fun x17 =>
  cond ((!x14) || (!x17))
  (some ([], (13 : Int)))
  (zJ l0 pE hop2 iH eY ([]) 0)))

noncomputable def oG  : Option Bool :=
  (vW (10 : Int) (5 : Int) (12 : Int)).bind fun x1 =>
  (sO (10 : Int) (5 : Int) (bJ.mk (3 : Int) (7 : Int)) (0 : Int) (100 : Int)).bind fun x4 =>
  (pK ([aM.mk ([aE.mk (1 : Int) (1 : Int) ByteArray.empty]) (3 : Int) (1 : Int), aM.mk ([aE.mk (1 : Int) (1 : Int) ByteArray.empty]) (7 : Int) (-1 : Int)]) (10 : Int) (5 : Int) (0 : Int) (100 : Int)).bind fun x7 =>
  bD (((((((decide (x1.1 = (5 : Int))) && (decide (x1.2 = (0 : Int)))) && (decide (x4.2 = (0 : Int)))) && (decide (((List.length x4.1 : Nat) : Int) = (2 : Int))))) = true → 0 ≤ (1 : Int) ∧ (1 : Int) < ((List.length x4.1 : Nat) : Int))) <|
  bD ((((((((((decide (x1.1 = (5 : Int))) && (decide (x1.2 = (0 : Int)))) && (decide (x4.2 = (0 : Int)))) && (decide (((List.length x4.1 : Nat) : Int) = (2 : Int)))) && (decide ((List.getD x4.1 (Int.toNat (1 : Int)) default) = (5 : Int)))) && (decide (x7.2 = (0 : Int)))) && (decide (((List.length x7.1 : Nat) : Int) = (2 : Int))))) = true → 0 ≤ (1 : Int) ∧ (1 : Int) < ((List.length x7.1 : Nat) : Int))) <|
  bD (((((((((((decide (x1.1 = (5 : Int))) && (decide (x1.2 = (0 : Int)))) && (decide (x4.2 = (0 : Int)))) && (decide (((List.length x4.1 : Nat) : Int) = (2 : Int)))) && (decide ((List.getD x4.1 (Int.toNat (1 : Int)) default) = (5 : Int)))) && (decide (x7.2 = (0 : Int)))) && (decide (((List.length x7.1 : Nat) : Int) = (2 : Int)))) && ((decide ((((List.getD x7.1 (Int.toNat (1 : Int)) default).Span).From) = ((bJ.mk (5 : Int) (15 : Int)).From))) && ((decide ((((List.getD x7.1 (Int.toNat (1 : Int)) default).Span).To) = ((bJ.mk (5 : Int) (15 : Int)).To))) && true)))) = true → 0 ≤ (1 : Int) ∧ (1 : Int) < ((List.length x7.1 : Nat) : Int))) <|
  some (((((((((decide (x1.1 = (5 : Int))) && (decide (x1.2 = (0 : Int)))) && (decide (x4.2 = (0 : Int)))) && (decide (((List.length x4.1 : Nat) : Int) = (2 : Int)))) && (decide ((List.getD x4.1 (Int.toNat (1 : Int)) default) = (5 : Int)))) && (decide (x7.2 = (0 : Int)))) && (decide (((List.length x7.1 : Nat) : Int) = (2 : Int)))) && ((decide ((((List.getD x7.1 (Int.toNat (1 : Int)) default).Span).From) = ((bJ.mk (5 : Int) (15 : Int)).From))) && ((decide ((((List.getD x7.1 (Int.toNat (1 : Int)) default).Span).To) = ((bJ.mk (5 : Int) (15 : Int)).To))) && true))) && (decide (((List.length ((List.getD x7.1 (Int.toNat (1 : Int)) default).Rows) : Nat) : Int) = (1 : Int))))

noncomputable def rN  : Option Bool :=
  some true

noncomputable def oS (a0 : (List aE)) (b1 : (List aE)) (i5 : Int) : Option ((Int) ⊕ (Unit ⊕ Bool)) :=
  cond (decide (i5 < ((List.length a0 : Nat) : Int)))
  (bD (0 ≤ i5 ∧ i5 < ((List.length a0 : Nat) : Int)) <|
  bD (0 ≤ i5 ∧ i5 < ((List.length b1 : Nat) : Int)) <|
  cond (!((decide (((List.getD a0 (Int.toNat i5) default).Kind) = ((List.getD b1 (Int.toNat i5) default).Kind))) && ((decide (((List.getD a0 (Int.toNat i5) default).Num) = ((List.getD b1 (Int.toNat i5) default).Num))) && ((nR ((List.getD a0 (Int.toNat i5) default).Text) ((List.getD b1 (Int.toNat i5) default).Text)) && true))))
  (some (.inr (.inr false)))
  (some (.inl (IntKind.i64.wrap (i5 + (1 : Int))))))
  (some (.inr (.inl ())))

noncomputable def uI (a0 : (List aE)) (b1 : (List aE)) (i5 : Int) : Option Bool :=
  (lp (fun s => oS a0 b1 s) i5).bind (Sum.elim (fun rr => rN ) (fun rr => some rr))

noncomputable def qA (a0 : (List aE)) (b1 : (List aE)) : Option Bool :=
  cond (!decide (((List.length a0 : Nat) : Int) = ((List.length b1 : Nat) : Int)))
  (some false)
  (uI a0 b1 (0 : Int))

noncomputable def mI  : Option Bool :=
  some true

noncomputable def lA (a0 : (List dQ)) (b1 : (List dQ)) (i5 : Int) : Option ((Int) ⊕ (Unit ⊕ Bool)) :=
  cond (decide (i5 < ((List.length a0 : Nat) : Int)))
  (bD (0 ≤ i5 ∧ i5 < ((List.length a0 : Nat) : Int)) <|
  bD (0 ≤ i5 ∧ i5 < ((List.length b1 : Nat) : Int)) <|
  bD ((((!(!decide (((List.getD a0 (Int.toNat i5) default).N) = ((List.getD b1 (Int.toNat i5) default).N))))) = true → 0 ≤ i5 ∧ i5 < ((List.length a0 : Nat) : Int))) <|
  bD ((((!(!decide (((List.getD a0 (Int.toNat i5) default).N) = ((List.getD b1 (Int.toNat i5) default).N))))) = true → 0 ≤ i5 ∧ i5 < ((List.length b1 : Nat) : Int))) <|
  (cW (!(!decide (((List.getD a0 (Int.toNat i5) default).N) = ((List.getD b1 (Int.toNat i5) default).N)))) (qA ((List.getD a0 (Int.toNat i5) default).Row) ((List.getD b1 (Int.toNat i5) default).Row))).bind fun x7 =>
  cond ((!decide (((List.getD a0 (Int.toNat i5) default).N) = ((List.getD b1 (Int.toNat i5) default).N))) || (!x7))
  (some (.inr (.inr false)))
  (some (.inl (IntKind.i64.wrap (i5 + (1 : Int))))))
  (some (.inr (.inl ())))

noncomputable def oL (a0 : (List dQ)) (b1 : (List dQ)) (i5 : Int) : Option Bool :=
  (lp (fun s => lA a0 b1 s) i5).bind (Sum.elim (fun rr => mI ) (fun rr => some rr))

noncomputable def mX (a0 : (List dQ)) (b1 : (List dQ)) : Option Bool :=
  cond (!decide (((List.length a0 : Nat) : Int) = ((List.length b1 : Nat) : Int)))
  (some false)
  (oL a0 b1 (0 : Int))

noncomputable def rD  : Option Bool :=
  some true

noncomputable def oT (a0 : (List aS)) (b1 : (List aS)) (i5 : Int) : Option ((Int) ⊕ (Unit ⊕ Bool)) :=
  cond (decide (i5 < ((List.length a0 : Nat) : Int)))
  (bD (0 ≤ i5 ∧ i5 < ((List.length a0 : Nat) : Int)) <|
  bD (0 ≤ i5 ∧ i5 < ((List.length b1 : Nat) : Int)) <|
  bD ((((!(!((decide ((((List.getD a0 (Int.toNat i5) default).Span).From) = (((List.getD b1 (Int.toNat i5) default).Span).From))) && ((decide ((((List.getD a0 (Int.toNat i5) default).Span).To) = (((List.getD b1 (Int.toNat i5) default).Span).To))) && true))))) = true → 0 ≤ i5 ∧ i5 < ((List.length a0 : Nat) : Int))) <|
  bD ((((!(!((decide ((((List.getD a0 (Int.toNat i5) default).Span).From) = (((List.getD b1 (Int.toNat i5) default).Span).From))) && ((decide ((((List.getD a0 (Int.toNat i5) default).Span).To) = (((List.getD b1 (Int.toNat i5) default).Span).To))) && true))))) = true → 0 ≤ i5 ∧ i5 < ((List.length b1 : Nat) : Int))) <|
  (cW (!(!((decide ((((List.getD a0 (Int.toNat i5) default).Span).From) = (((List.getD b1 (Int.toNat i5) default).Span).From))) && ((decide ((((List.getD a0 (Int.toNat i5) default).Span).To) = (((List.getD b1 (Int.toNat i5) default).Span).To))) && true)))) (mX ((List.getD a0 (Int.toNat i5) default).Rows) ((List.getD b1 (Int.toNat i5) default).Rows))).bind fun x7 =>
  cond ((!((decide ((((List.getD a0 (Int.toNat i5) default).Span).From) = (((List.getD b1 (Int.toNat i5) default).Span).From))) && ((decide ((((List.getD a0 (Int.toNat i5) default).Span).To) = (((List.getD b1 (Int.toNat i5) default).Span).To))) && true))) || (!x7))
  (some (.inr (.inr false)))
  (some (.inl (IntKind.i64.wrap (i5 + (1 : Int))))))
  (some (.inr (.inl ())))

noncomputable def uN (a0 : (List aS)) (b1 : (List aS)) (i5 : Int) : Option Bool :=
  (lp (fun s => oT a0 b1 s) i5).bind (Sum.elim (fun rr => rD ) (fun rr => some rr))

noncomputable def sK (a0 : (List aS)) (b1 : (List aS)) : Option Bool :=
  cond (!decide (((List.length a0 : Nat) : Int) = ((List.length b1 : Nat) : Int)))
  (some false)
  (uN a0 b1 (0 : Int))

noncomputable def xB (l0 : List aM) : Option (List aM) :=
  some l0

noncomputable def nV (r1 : (List aE)) (t9 : (List aB)) (t10 : Int) (l0 : List aM) (t11 : Int) : Option ((List aM × Int) ⊕ ((List aM))) :=
  cond (decide (t11 < t10))
  (bD (0 ≤ t11 ∧ t11 < ((List.length t9 : Nat) : Int)) <|
  (qQ r1).bind fun x7 =>
  bD ((List.length l0 + List.length ([aM.mk x7 ((List.getD t9 (Int.toNat t11) default).At) ((List.getD t9 (Int.toNat t11) default).Net)])) * 40 ≤ 140737488355328 ∧ List.length l0 + List.length ([aM.mk x7 ((List.getD t9 (Int.toNat t11) default).At) ((List.getD t9 (Int.toNat t11) default).Net)]) ≤ 9223372036854775807) <|
  some (.inl (l0 ++ ([aM.mk x7 ((List.getD t9 (Int.toNat t11) default).At) ((List.getD t9 (Int.toNat t11) default).Net)]), IntKind.i64.wrap (t11 + (1 : Int)))))
  (some (.inr l0))

noncomputable def xG (l0 : List aM) (r1 : (List aE)) (t9 : (List aB)) (t10 : Int) (t11 : Int) : Option (List aM) :=
  (lp (fun s => nV r1 t9 t10 s.1 s.2) (l0, t11)).bind (fun rr => xB rr)

noncomputable def vX (l0 : (List aM)) (r1 : (List aE)) (f2 : (List aB)) : Option (List aM) :=
  xG l0 r1 f2 ((List.length f2 : Nat) : Int) (0 : Int)

noncomputable def mO (by1 : (List aB) → Option ((List aB) × Int)) (kR : (List aM)) (t4 : (List aM)) (t5 : Int) (out6 : List aM) (t14 : (List aE)) (t15 : (List aB)) : Option (((List aM) × Int × List aM) ⊕ ((List aM) × Int × List aM)) :=
  (by1 t15).bind fun x8 =>
  cond (!decide (x8.2 = (0 : Int)))
  (some (.inr ([], x8.2, out6)))
  ((vX out6 t14 x8.1).bind fun x12 =>
  cond (decide ((4096 : Int) < ((List.length x12 : Nat) : Int)))
  (some (.inr ([], (7 : Int), x12)))
  (some (.inl (t4, t5, x12))))

noncomputable def tP (by1 : (List aB) → Option ((List aB) × Int)) (t4 : (List aM)) (t5 : Int) (out6 : List aM) (kR : (List aM)) : Option ((List aM) × Int) :=
  (lZ (fun st t14 t15 => rnd (fun (s : (List aM) × Int × List aM) => mO by1 kR s.1 s.2.1 s.2.2 t14 t15) st) kR (.inl (t4, t5, out6))).bind (Sum.elim (fun (s : (List aM) × Int × List aM) =>
  (some (s.2.2, (0 : Int))))
  (fun (s : (List aM) × Int × List aM) =>
  (some (s.1, s.2.1))))

noncomputable def rO (l0 : (List aM)) (by1 : (List aB) → Option ((List aB) × Int)) : Option ((List aM) × Int) :=
  (nW l0).bind fun x5 =>
  tP by1 ([]) 0 ([] : List aM) x5

noncomputable def vF (l0 : (List aM)) (by1 : (List aB) → Option ((List aB) × Int)) : Option ((List aM) × Int) :=
  (qI l0).bind fun x1 =>
  cond (!x1)
  (some ([], (2 : Int)))
  ((rO l0 by1).bind fun x5 =>
  some (x5.1, x5.2))

noncomputable def hU (s0 : (List aB)) : Option (List aB) :=
  bD (List.length s0 * 16 ≤ 140737488355328 ∧ List.length s0 ≤ 9223372036854775807) <|
  some s0

noncomputable def rS (f0 : (List aB)) : Option ((List aB) × Int) :=
  (lV f0).bind fun x1 =>
  cond (!x1)
  (some ([], (7 : Int)))
  (some (f0, (0 : Int)))

noncomputable def rM (out6 : List aB) : Option ((List aB) × Int) :=
  (rS out6).bind fun x12 =>
  some (x12.1, x12.2)

noncomputable def oQ (t1 : Int) (out6 : List aB) (v7 : Int) : Option ((List aB) × Int) :=
  cond (!decide (v7 = (0 : Int)))
  (bD ((List.length out6 + List.length ([aB.mk t1 (IntKind.i64.wrap (0 - v7))])) * 16 ≤ 140737488355328 ∧ List.length out6 + List.length ([aB.mk t1 (IntKind.i64.wrap (0 - v7))]) ≤ 9223372036854775807) <|
  rM (out6 ++ ([aB.mk t1 (IntKind.i64.wrap (0 - v7))])))
  (rM out6)

noncomputable def kM (t1 : Int) (t18 : (List aB)) (t19 : Int) (out6 : List aB) (v7 : Int) (t20 : Int) : Option ((List aB × Int × Int) ⊕ ((List aB × Int))) :=
  cond (decide (t20 < t19))
  (bD (0 ≤ t20 ∧ t20 < ((List.length t18 : Nat) : Int)) <|
  cond (decide (t1 ≤ ((List.getD t18 (Int.toNat t20) default).At)))
  (some (.inr (out6, v7)))
  (bD ((List.length out6 + List.length ([List.getD t18 (Int.toNat t20) default])) * 16 ≤ 140737488355328 ∧ List.length out6 + List.length ([List.getD t18 (Int.toNat t20) default]) ≤ 9223372036854775807) <|
  some (.inl (out6 ++ ([List.getD t18 (Int.toNat t20) default]), IntKind.i64.wrap (v7 + ((List.getD t18 (Int.toNat t20) default).Net)), IntKind.i64.wrap (t20 + (1 : Int))))))
  (some (.inr (out6, v7)))

noncomputable def uR (t1 : Int) (out6 : List aB) (v7 : Int) (t18 : (List aB)) (t19 : Int) (t20 : Int) : Option ((List aB) × Int) :=
  (lp (fun s => kM t1 t18 t19 s.1 s.2.1 s.2.2) (out6, v7, t20)).bind (fun rr => oQ t1 rr.1 rr.2)

noncomputable def sF (f0 : (List aB)) (t1 : Int) : Option ((List aB) × Int) :=
  (lV f0).bind fun x1 =>
  cond (!x1)
  (some ([], (2 : Int)))
  (cond (decide ((1125899906842624 : Int) ≤ t1))
  ((hU f0).bind fun x6 =>
  some (x6, (0 : Int)))
  (uR t1 ([] : List aB) (0 : Int) f0 ((List.length f0 : Nat) : Int) (0 : Int)))

noncomputable def oC (f0 : (List aB)) (t1 : Int) : Option ((List aB) × Int) :=
  (sF f0 t1).bind fun x1 =>
  some (x1.1, x1.2)

noncomputable def pZ (l0 : (List aM)) (t1 : Int) : Option ((List aM) × Int) :=
  (vF l0 (fun y0 => oC y0 t1)).bind fun x1 =>
  some (x1.1, x1.2)

noncomputable def rF  : Option Bool :=
  some true

noncomputable def oR (a0 : (List aM)) (b1 : (List aM)) (i5 : Int) : Option ((Int) ⊕ (Unit ⊕ Bool)) :=
  cond (decide (i5 < ((List.length a0 : Nat) : Int)))
  (bD (0 ≤ i5 ∧ i5 < ((List.length a0 : Nat) : Int)) <|
  bD (0 ≤ i5 ∧ i5 < ((List.length b1 : Nat) : Int)) <|
  bD ((((!(!decide (((List.getD a0 (Int.toNat i5) default).At) = ((List.getD b1 (Int.toNat i5) default).At))))) = true → 0 ≤ i5 ∧ i5 < ((List.length a0 : Nat) : Int))) <|
  bD ((((!(!decide (((List.getD a0 (Int.toNat i5) default).At) = ((List.getD b1 (Int.toNat i5) default).At))))) = true → 0 ≤ i5 ∧ i5 < ((List.length b1 : Nat) : Int))) <|
  bD ((((!((!decide (((List.getD a0 (Int.toNat i5) default).At) = ((List.getD b1 (Int.toNat i5) default).At))) || (!decide (((List.getD a0 (Int.toNat i5) default).Net) = ((List.getD b1 (Int.toNat i5) default).Net)))))) = true → 0 ≤ i5 ∧ i5 < ((List.length a0 : Nat) : Int))) <|
  bD ((((!((!decide (((List.getD a0 (Int.toNat i5) default).At) = ((List.getD b1 (Int.toNat i5) default).At))) || (!decide (((List.getD a0 (Int.toNat i5) default).Net) = ((List.getD b1 (Int.toNat i5) default).Net)))))) = true → 0 ≤ i5 ∧ i5 < ((List.length b1 : Nat) : Int))) <|
  (cW (!((!decide (((List.getD a0 (Int.toNat i5) default).At) = ((List.getD b1 (Int.toNat i5) default).At))) || (!decide (((List.getD a0 (Int.toNat i5) default).Net) = ((List.getD b1 (Int.toNat i5) default).Net))))) (qA ((List.getD a0 (Int.toNat i5) default).Row) ((List.getD b1 (Int.toNat i5) default).Row))).bind fun x9 =>
  cond (((!decide (((List.getD a0 (Int.toNat i5) default).At) = ((List.getD b1 (Int.toNat i5) default).At))) || (!decide (((List.getD a0 (Int.toNat i5) default).Net) = ((List.getD b1 (Int.toNat i5) default).Net)))) || (!x9))
  (some (.inr (.inr false)))
  (some (.inl (IntKind.i64.wrap (i5 + (1 : Int))))))
  (some (.inr (.inl ())))

noncomputable def uO (a0 : (List aM)) (b1 : (List aM)) (i5 : Int) : Option Bool :=
  (lp (fun s => oR a0 b1 s) i5).bind (Sum.elim (fun rr => rF ) (fun rr => some rr))

noncomputable def sU (a0 : (List aM)) (b1 : (List aM)) : Option Bool :=
  cond (!decide (((List.length a0 : Nat) : Int) = ((List.length b1 : Nat) : Int)))
  (some false)
  (uO a0 b1 (0 : Int))

noncomputable def oW (out5 : List aS) : Option (List aS) :=
  some out5

noncomputable def nC (l0 : (List aS)) (t1 : Int) (out5 : List aS) (i6 : Int) : Option ((List aS × Int) ⊕ ((List aS))) :=
  some (.inl (out5, IntKind.i64.wrap (i6 + (1 : Int))))

noncomputable def lX (l0 : (List aS)) (t1 : Int) (out5 : List aS) (i6 : Int) : Option ((List aS × Int) ⊕ ((List aS))) :=
  cond (decide (i6 < ((List.length l0 : Nat) : Int)))
  (bD (0 ≤ i6 ∧ i6 < ((List.length l0 : Nat) : Int)) <|
  cond (decide ((((List.getD l0 (Int.toNat i6) default).Span).To) ≤ t1))
  (bD (0 ≤ i6 ∧ i6 < ((List.length l0 : Nat) : Int)) <|
  bD ((List.length out5 + List.length ([List.getD l0 (Int.toNat i6) default])) * 40 ≤ 140737488355328 ∧ List.length out5 + List.length ([List.getD l0 (Int.toNat i6) default]) ≤ 9223372036854775807) <|
  nC l0 t1 (out5 ++ ([List.getD l0 (Int.toNat i6) default])) i6)
  (nC l0 t1 out5 i6))
  (some (.inr out5))

noncomputable def sD (l0 : (List aS)) (t1 : Int) (out5 : List aS) (i6 : Int) : Option (List aS) :=
  (lp (fun s => lX l0 t1 s.1 s.2) (out5, i6)).bind (fun rr => oW rr)

noncomputable def nY (l0 : (List aS)) (t1 : Int) : Option (List aS) :=
  sD l0 t1 ([] : List aS) (0 : Int)

noncomputable def oZ (l0 : (List aM)) (m1 : (List aM)) (AB : Int) (AL : Int) (t4 : Int) : Option Bool :=
  (pZ l0 t4).bind fun x1 =>
  (pZ m1 t4).bind fun x4 =>
  (cW (!((!decide (x1.2 = (0 : Int))) || (!decide (x4.2 = (0 : Int))))) (sU x1.1 x4.1)).bind fun x7 =>
  cond (((!decide (x1.2 = (0 : Int))) || (!decide (x4.2 = (0 : Int)))) || (!x7))
  ((oG ).bind fun x11 =>
  some x11)
  ((pK l0 AB AL (0 : Int) t4).bind fun x14 =>
  (pK m1 AB AL (0 : Int) t4).bind fun x17 =>
  cond ((!decide (x14.2 = (0 : Int))) || (!decide (x17.2 = (0 : Int))))
  ((oG ).bind fun x21 =>
  some x21)
  ((oG ).bind fun x24 =>
  (cW x24 (nY x14.1 t4)).bind fun x27 =>
  (cW x24 (nY x17.1 t4)).bind fun x30 =>
  (cW x24 (sK x27 x30)).bind fun x33 =>
  some (x24 && x33)))

end Go.Abs
namespace Go.Abs
open Go Go.RowKit
def zE (x : aE) : Prop := vS x.Kind ∧ vS x.Num ∧ (fun s => s.size ≤ maxLen) x.Text ∧ True

def pN (x : aM) : Prop := (fun l => (∀ a ∈ l, zE a) ∧ l.length * 32 ≤ 140737488351232) x.Row ∧ vS x.At ∧ vS x.Net ∧ True

end Go.Abs
namespace Go.Abs
open Go Go.RowKit Go.Proofs
noncomputable def tt : TT := ⟨UR Try.prog, RH Try.prog⟩

theorem aD : fZ Try.prog tt := fZ.of Try.prog

theorem DT (iP : Int) (hop1 : Int) (r : Bool) (h0 : qE iP hop1 = some r) : dG Try.prog 24 [(eI iP), (eI hop1)] (aC r) := by
  intro H0
  refine dF Try.func24 ?_
  have hO := aK.start H0
  unfold qE at h0
  refine aW aD 1 [] [] ?_
  refine cH aD 15 [(4, (aC ((((decide ((1 : Int) ≤ iP)) && (decide (iP ≤ (1099511627776 : Int)))) && (decide ((1 : Int) ≤ hop1))) && (decide (hop1 ≤ (1099511627776 : Int))))))] ?_
  refine bI ?_
  obtain rfl := oI h0
  exact aG (Q_r hO)

theorem vV (t0 : Int) (r : Bool) (h0 : mT t0 = some r) : dG Try.prog 25 [(eI t0)] (aC r) := by
  intro H0
  refine dF Try.func25 ?_
  have hO := aK.start H0
  unfold mT at h0
  refine aW aD 1 [] [] ?_
  refine cH aD 7 [(2, (aC ((decide ((0 : Int) ≤ t0)) && (decide (t0 ≤ (1125899906842624 : Int))))))] ?_
  refine bI ?_
  obtain rfl := oI h0
  exact aG (Q_r hO)

theorem SL (a0 : Int) (b1 : Int) (r : (Int × Int × Int)) (h0 : uB a0 b1 = some r) : dG Try.prog 53 [(eI a0), (eI b1)] (.tup [(eI r.1), (eI r.2.1), (eI r.2.2)]) := by
  intro H0
  refine dF Try.func53 ?_
  have hO := aK.start H0
  unfold uB at h0
  refine aW aD 3 [] [] ?_
  refine aN ?_
  refine aW aD 2 [] [(10, (aC (decide (b1 < (1 : Int)))))] ?_
  refine bO h0 (fun h0 => ?_) (fun h0 => ?_)
  · refine cH aD 3 [(4, (eI (0 : Int))), (5, (eI (0 : Int))), (6, (eI (2 : Int)))] ?_
    refine bI ?_
    obtain rfl := oI h0
    exact aG (aT (Q_r hO))
  refine bQ ?_
  refine bB [(0, (eI a0)), (1, (eI b1))] ?_
  refine aN ?_
  refine fX (gC []) aD 8 ?_
  obtain ⟨c2, h0⟩ := aZ h0
  obtain ⟨c3, h0⟩ := aZ h0
  refine IG (Ds := [b1 ≠ 0, b1 ≠ 0]) (by kernel_rfl) ⟨c2, c3, trivial⟩ ?_
  refine bT [0] [(7, (eI (wR (Int.tdiv a0 b1)))), (8, (eI (Int.tmod a0 b1)))] ?_
  refine gX (fun T H => ∃ q7 : Int, ∃ r8 : Int, Has T [(7, (eI q7)), (8, (eI r8))] ∧ aK ⟨H0, [], []⟩ H [] ∧ sZ q7 r8 = some r) ?_ ?_
  · clear hO h0
    rintro T H ⟨q7, r8, hT, hO, h0⟩
    refine bH hT ?_
    clear hT
    unfold sZ at h0
    refine cH aD 5 [(4, (eI q7)), (5, (eI r8)), (6, (eI (0 : Int)))] ?_
    refine bI ?_
    obtain rfl := oI h0
    exact aG (Q_r hO)
  refine aW aD 2 [] [(18, (aC (decide ((Int.tmod a0 b1) < (0 : Int)))))] ?_
  refine bO h0 (fun h0 => ?_) (fun h0 => ?_)
  · refine aU aD 7 ?_
    refine bA ?_
    exact aG (aH (⟨rfl, _, _, .eq (by kernel_rfl), hO, h0⟩))
  refine bQ ?_
  exact aG (aH (⟨rfl, _, _, .eq (by kernel_rfl), hO, h0⟩))

theorem zU (hop0 : Int) (n1 : Int) (r : Int) (h0 : oF hop0 n1 = some r) : dG Try.prog 26 [(eI hop0), (eI n1)] (eI r) := by
  intro H0
  refine dF Try.func26 ?_
  have hO := aK.start H0
  unfold oF at h0
  refine aW aD 1 [] [] ?_
  refine aN ?_
  refine aW aD 2 [] [(9, (aC (decide (n1 < (0 : Int)))))] ?_
  refine bO h0 (fun h0 => ?_) (fun h0 => ?_)
  · refine cH aD 1 [(4, (eI (0 : Int)))] ?_
    refine bI ?_
    obtain rfl := oI h0
    exact aG (aT (Q_r hO))
  refine bQ ?_
  refine bB [(0, (eI hop0)), (1, (eI n1))] ?_
  refine aN ?_
  refine aU aD 10 ?_
  refine bK 2 ?_
  obtain ⟨x2, hx3, h0⟩ := aV h0
  refine dU (SL n1 hop0 _ hx3) hO ?_
  intro H hO
  refine bA ?_
  refine bT [1] [(5, (eI x2.1))] ?_
  refine cH aD 5 [(4, (eI (wR ((wR (x2.1 + (1 : Int))) * hop0))))] ?_
  refine bI ?_
  obtain rfl := oI h0
  exact aG (Q_r hO)

theorem VN (iP : Int) (hop1 : Int) (t2 : Int) (r : (Int × Int)) (h0 : vW iP hop1 t2 = some r) : dG Try.prog 9 [(eI iP), (eI hop1), (eI t2)] (.tup [(eI r.1), (eI r.2)]) := by
  intro H0
  refine dF Try.func9 ?_
  have hO := aK.start H0
  unfold vW at h0
  refine aW aD 2 [] [] ?_
  refine aN ?_
  refine cB 0 ?_
  refine aN ?_
  refine aU aD 5 ?_
  refine bK 2 ?_
  obtain ⟨x1, hx2, h0⟩ := aV h0
  refine dU (DT iP hop1 _ hx2) hO ?_
  intro H hO
  refine bA ?_
  refine bT [] [(8, (aC (!x1)))] ?_
  refine bO h0 (fun h0 => ?_) (fun h0 => ?_)
  · refine cH aD 2 [(6, (eI (0 : Int))), (7, (eI (2 : Int)))] ?_
    refine bI ?_
    obtain rfl := oI h0
    exact aG (bF (aT (Q_r hO)))
  refine aN ?_
  refine aU aD 4 ?_
  refine bK 1 ?_
  obtain ⟨x5, hx6, h0⟩ := aV h0
  refine dU (vV t2 _ hx6) hO ?_
  intro H hO
  refine bA ?_
  refine bT [8] [(13, (aC (!x5)))] ?_
  refine bO h0 (fun h0 => ?_) (fun h0 => ?_)
  · refine cH aD 2 [(6, (eI (0 : Int))), (7, (eI (13 : Int)))] ?_
    refine bI ?_
    obtain rfl := oI h0
    exact aG (bF (aT (Q_r hO)))
  refine aW aD 3 [13] [(17, (aC (decide (t2 = (1125899906842624 : Int)))))] ?_
  refine bO h0 (fun h0 => ?_) (fun h0 => ?_)
  · refine cH aD 2 [(6, (eI (1125899906842624 : Int))), (7, (eI (0 : Int)))] ?_
    refine bI ?_
    obtain rfl := oI h0
    exact aG (bF (aT (Q_r hO)))
  refine bQ ?_
  refine eX [(0, (eI iP)), (1, (eI hop1)), (2, (eI t2))] ?_
  refine aG (aY (aH (?_)))
  refine aN ?_
  refine aU aD 8 ?_
  refine bK 4 ?_
  obtain ⟨x10, hx11, h0⟩ := aV h0
  refine dU (zU hop1 (wR (t2 - iP)) _ hx11) hO ?_
  intro H hO
  refine bA ?_
  refine bB [(6, (eI (if (1125899906842624 : Int) < x10 then (1125899906842624 : Int) else x10))), (7, (eI (0 : Int)))] ?_
  refine bI ?_
  obtain rfl := oI h0
  exact aG (Q_r hO)

theorem EP (iP : Int) (hop1 : Int) (s2 : bJ) (iH : Int) (eY : Int) (r : (Int × bJ × Int × Int × Int)) (h0 : pV iP hop1 s2 iH eY = some r) : dG Try.prog 30 [(eI iP), (eI hop1), (bW s2), (eI iH), (eI eY)] (.fn (.func 54) [] [(.rp (eI r.1)), (.rp (bW r.2.1)), (.rp (eI r.2.2.1)), (.rp (eI r.2.2.2.1)), (.rp (eI r.2.2.2.2))]) := by
  intro H0
  refine dF Try.func30 ?_
  have hO := aK.start H0
  unfold pV at h0
  refine aN ?_
  refine aU aD 6 ?_
  refine gK 1 (eI iP) (by kernel_rfl) (by kernel_rfl) ?_
  refine gK 1 (eI hop1) (by kernel_rfl) (by kernel_rfl) ?_
  refine gK 2 (bW s2) (by kernel_rfl) (by kernel_rfl) ?_
  refine gK 1 (eI iH) (by kernel_rfl) (by kernel_rfl) ?_
  refine gK 1 (eI eY) (by kernel_rfl) (by kernel_rfl) ?_
  refine bA ?_
  refine bB [(5, (.rp (eI iP))), (6, (.rp (eI hop1))), (7, (.rp (bW s2))), (8, (.rp (eI iH))), (9, (.rp (eI eY)))] ?_
  refine cH aD 2 [(10, (.fn (.func 54) [] [(.rp (eI hop1)), (.rp (bW s2)), (.rp (eI iP)), (.rp (eI iH)), (.rp (eI eY))]))] ?_
  refine bI ?_
  obtain rfl := oI h0
  exact aG (kY (x := (.fn (.func 54) [] [(.rp (eI hop1)), (.rp (bW s2)), (.rp (eI iP)), (.rp (eI iH)), (.rp (eI eY))])) (by kernel_rfl) (aO.refl _) ⟨rfl, hO.out⟩)

theorem zK {σ : Type} (I : σ → Gs → Prop) (yield0_b : Nat) (cJ : σ → Int → Option (σ × Bool)) (yield0_h : ∀ st a0 st2 r, cJ st a0 = some (st2, r) → yI Try.prog (yv yield0_b) I st [(eI a0)] st2 (aC r)) (t1 : Int) (t2 : bJ) (t3 : Int) (t4 : Int) (t5 : Int) (sg0 : σ) (r : σ) (h0 : mL cJ t1 t2 t3 t4 t5 sg0 = some r) : uJ Try.prog 54 I sg0 [(yv yield0_b), (.rp (eI t1)), (.rp (bW t2)), (.rp (eI t3)), (.rp (eI t4)), (.rp (eI t5))] r (.tup []) := by
  intro H0 G0 hI hg
  refine dF Try.func54 ?_
  obtain ⟨G, hO, hI⟩ : ∃ G, aK ⟨H0, List.map (fun p : Nat × cS => p.1) G0, G⟩ H0 [] ∧ I sg0 G := ⟨G0, aK.BJ hg, hI⟩
  clear hg
  unfold mL at h0
  refine aN ?_
  refine fX (gC [9, 11, 12, 14, 15, 16, 18]) aD 12 ?_
  refine lT 5 ?_
  obtain ⟨x1, hx2, h0⟩ := aV h0
  refine yY (zU t1 (wR (t2.From - t3)) _ hx2) hO ?_
  intro H hO
  refine lT 9 ?_
  obtain ⟨x4, hx5, h0⟩ := aV h0
  refine yY (zU t1 (wR (t4 - (1 : Int))) _ hx5) hO ?_
  intro H hO
  refine jP ?_
  refine bT [3, 4] [(7, (eI (if x4 > x1 then x4 else x1)))] ?_
  refine aW aD 2 [7] [(8, (eI (if x4 > x1 then x4 else x1)))] ?_
  refine cB 0 ?_
  refine fH [(0, (yv yield0_b)), (1, (.rp (eI t1))), (2, (.rp (bW t2))), (5, (.rp (eI t5))), (8, (eI (if x4 > x1 then x4 else x1)))] ?_
  refine fI (fun T H => ∃ sg : σ, ∃ t8 : Int, ∃ G : Gs, Has T [(0, (yv yield0_b)), (1, (.rp (eI t1))), (2, (.rp (bW t2))), (5, (.rp (eI t5))), (8, (eI t8))] ∧ aK ⟨H0, List.map (fun p : Nat × cS => p.1) G0, G⟩ H [] ∧ I sg G ∧ nN cJ sg t1 t2 t5 t8 = some r) ?_ ⟨sg0, if x4 > x1 then x4 else x1, G, .eq (by kernel_rfl), hO, hI, h0⟩
  clear hO hI h0
  rintro T H ⟨sg, t8, G, hT, hO, hI, h0⟩
  refine bH hT ?_
  clear hT
  unfold nN at h0
  obtain ⟨rr0, hl0, h0⟩ := aV h0
  refine dM (by kernel_rfl) (fun (s : σ × Int) T H => ∃ G : Gs, Has T [(0, (yv yield0_b)), (1, (.rp (eI t1))), (2, (.rp (bW t2))), (5, (.rp (eI t5))), (8, (eI s.2))] ∧ aK ⟨H0, List.map (fun p : Nat × cS => p.1) G0, G⟩ H [] ∧ I s.1 G) hl0 ⟨G, .eq (by kernel_rfl), hO, hI⟩ ?_
  clear hO hI
  rintro k0 s out1 T H ⟨G, hT, hO, hI⟩ h1 ho0
  obtain ⟨sg, t8⟩ := s
  replace h1 : jA cJ t1 t2 t5 sg t8 = some out1 := h1
  try dsimp only at hT
  refine bH hT ?_
  clear hT
  unfold jA at h1
  refine aN ?_
  refine aW aD 6 [] [(26, (aC (decide (t8 < (if (1125899906842624 : Int) < (if t5 < t2.To then t5 else t2.To) then (1125899906842624 : Int) else (if t5 < t2.To then t5 else t2.To))))))] ?_
  refine bO h1 (fun h1 => ?_) (fun h1 => ?_)
  · refine bQ ?_
    refine bB [(0, (yv yield0_b)), (1, (.rp (eI t1))), (2, (.rp (bW t2))), (5, (.rp (eI t5))), (8, (eI t8))] ?_
    refine aN ?_
    refine cB 1 ?_
    refine aN ?_
    refine aU aD 4 ?_
    refine bK 2 ?_
    obtain ⟨x8, hx9, h1⟩ := aV h1
    refine FJ (I := I) (yv yield0_b) [(eI t8)] (aC x8.2) (by kernel_rfl) (by kernel_rfl) (yield0_h _ t8 x8.1 x8.2 hx9) hO hI ?_
    intro G H hO hI
    refine bA ?_
    refine bT [] [(33, (aC (!x8.2)))] ?_
    refine bO h1 (fun h1 => ?_) (fun h1 => ?_)
    · refine bI ?_
      obtain rfl := oI h1
      obtain rfl : _ = rr0 := ho0
      replace h0 : some x8.1 = some r := h0
      obtain rfl := oI h0
      exact aG (bF (aT (aT (bF (kY (x := (.tup [])) (by kernel_rfl) (aO.refl _) ⟨rfl, G, hI, hO.wH⟩)))))
    refine bQ ?_
    refine eX [(0, (yv yield0_b)), (1, (.rp (eI t1))), (2, (.rp (bW t2))), (5, (.rp (eI t5))), (8, (eI t8))] ?_
    refine aG (aY (aH (?_)))
    refine aU aD 4 ?_
    refine bA ?_
    exact aG (aH (⟨rfl, _, (oI h1).symm, _, .eq (by kernel_rfl), hO, hI⟩))
  refine iJ 0 ?_
  obtain rfl := oI h1
  obtain rfl : _ = rr0 := ho0
  replace h0 : some sg = some r := h0
  obtain rfl := oI h0
  exact aG (aX (aX (bX (wD (x := (.tup [])) (by kernel_rfl) (aO.refl _) ⟨rfl, G, hI, hO.wH⟩))))

theorem OE (iP : Int) (hop1 : Int) (s2 : bJ) (iH : Int) (eY : Int) (r : ((List Int) × Int)) (h0 : sO iP hop1 s2 iH eY = some r) : dG Try.prog 12 [(eI iP), (eI hop1), (bW s2), (eI iH), (eI eY)] (.tup [(eL (eI) r.1), (eI r.2)]) := by
  intro H0
  refine yP aD Try.func12 (by kernel_rfl) (by kernel_rfl) (by kernel_rfl) ?_
  have hO := aK.start H0
  unfold sO at h0
  refine aN ?_
  refine aU aD 3 ?_
  refine gK 2 (bW s2) (by kernel_rfl) (by kernel_rfl) ?_
  refine wW 1 (.sl true 0 (fun _ => .bad)) (eL (eI) ([])) (by kernel_rfl) (by kernel_rfl) (by kernel_rfl) (kP) (by kernel_rfl) (by kernel_rfl) hO ?_
  intro lo1 H hO
  refine jN 1 (eI 0) (by kernel_rfl) (by kernel_rfl) hO ?_
  intro lo2 H hO
  refine dJ ?_
  refine bT [2] [(7, (.rp (bW s2))), (10, (.lp lo1 0 0)), (11, (.lp lo2 0 0))] ?_
  refine aN ?_
  refine cB 0 ?_
  refine aN ?_
  refine aU aD 5 ?_
  refine bK 2 ?_
  obtain ⟨x3, hx4, h0⟩ := aV h0
  refine dU (DT iP hop1 _ hx4) hO ?_
  intro H hO
  refine bA ?_
  refine bT [] [(14, (aC (!x3)))] ?_
  refine bO h0 (fun h0 => ?_) (fun h0 => ?_)
  · refine aN ?_
    refine aU aD 2 ?_
    refine fS 0 lo1 1 0 (eL (eI) ([])) (.sl true 0 (fun _ => .bad)) [(eL (eI) ([]))] [(lo1, 1, [(.sl true 0 (fun _ => .bad))]), (lo2, 1, [(eI 0)])] hO rfl (by kernel_rfl) ?_
    intro H hO
    refine fS 1 lo2 1 0 (eI 0) (eI (2 : Int)) [(eI 0)] [(lo1, 1, [(.sl true 0 (fun _ => .bad))]), (lo2, 1, [(eI (2 : Int))])] hO rfl (by kernel_rfl) ?_
    intro H hO
    refine dJ ?_
    refine pH 0 lo1 1 (.sl true 0 (fun _ => .bad)) (eL (eI) ([])) [(lo1, 1, [(eL (eI) ([]))]), (lo2, 1, [(eI (2 : Int))])] hO (by kernel_rfl) (by kernel_rfl) kP (by kernel_rfl) ?_
    intro H hO
    refine bB [(10, (.lp lo1 0 0)), (11, (.lp lo2 0 0))] ?_
    refine bI ?_
    obtain rfl := oI h0
    exact aG (bF (aT (QM0 (.inr rfl) (rs := [.cell 10 30, .cell 11 22]) (xs := [(eL (eI) ([])), (eI (2 : Int))]) (x := (.tup [(eL (eI) ([])), (eI (2 : Int))])) (by kernel_rfl) (fN (lo := lo1) (k := 1) (y := (eL (eI) ([]))) (x := (eL (eI) ([]))) 0 hO (by kernel_rfl) (by kernel_rfl) (by kernel_rfl) (by kernel_rfl) (fN (lo := lo2) (k := 1) (y := (eI (2 : Int))) (x := (eI (2 : Int))) 1 hO (by kernel_rfl) (by kernel_rfl) (by kernel_rfl) (by kernel_rfl) lO)) (by kernel_rfl) ⟨rfl, hO.out⟩)))
  refine aN ?_
  refine aU aD 9 ?_
  refine bK 1 ?_
  obtain ⟨x7, hx8, h0⟩ := aV h0
  refine dU (vV iH _ hx8) hO ?_
  intro H hO
  refine bK 5 ?_
  obtain ⟨x10, hx11, h0⟩ := aV h0
  refine mB [(23, false)] 25 [(eI eY)] (aC x10) (!(!x7)) (by kernel_rfl) (by kernel_rfl) (by kernel_rfl) (fun hb12 => (vV eY _ (iW hx11 hb12))) hO ?_
  intro H hO
  refine bA ?_
  refine bT [14] [(19, (aC ((!x7) || (!x10))))] ?_
  refine bO h0 (fun h0 => ?_) (fun h0 => ?_)
  · refine aN ?_
    refine aU aD 2 ?_
    refine fS 0 lo1 1 0 (eL (eI) ([])) (.sl true 0 (fun _ => .bad)) [(eL (eI) ([]))] [(lo1, 1, [(.sl true 0 (fun _ => .bad))]), (lo2, 1, [(eI 0)])] hO rfl (by kernel_rfl) ?_
    intro H hO
    refine fS 1 lo2 1 0 (eI 0) (eI (13 : Int)) [(eI 0)] [(lo1, 1, [(.sl true 0 (fun _ => .bad))]), (lo2, 1, [(eI (13 : Int))])] hO rfl (by kernel_rfl) ?_
    intro H hO
    refine dJ ?_
    refine pH 0 lo1 1 (.sl true 0 (fun _ => .bad)) (eL (eI) ([])) [(lo1, 1, [(eL (eI) ([]))]), (lo2, 1, [(eI (13 : Int))])] hO (by kernel_rfl) (by kernel_rfl) kP (by kernel_rfl) ?_
    intro H hO
    refine bB [(10, (.lp lo1 0 0)), (11, (.lp lo2 0 0))] ?_
    refine bI ?_
    obtain rfl := oI h0
    exact aG (bF (aT (QM0 (.inr rfl) (rs := [.cell 10 30, .cell 11 22]) (xs := [(eL (eI) ([])), (eI (13 : Int))]) (x := (.tup [(eL (eI) ([])), (eI (13 : Int))])) (by kernel_rfl) (fN (lo := lo1) (k := 1) (y := (eL (eI) ([]))) (x := (eL (eI) ([]))) 0 hO (by kernel_rfl) (by kernel_rfl) (by kernel_rfl) (by kernel_rfl) (fN (lo := lo2) (k := 1) (y := (eI (13 : Int))) (x := (eI (13 : Int))) 1 hO (by kernel_rfl) (by kernel_rfl) (by kernel_rfl) (by kernel_rfl) lO)) (by kernel_rfl) ⟨rfl, hO.out⟩)))
  refine aW aD 16 [19] [(28, (aC (((decide (s2.From < (-1 : Int))) || (decide (s2.To ≤ s2.From))) || (decide ((1125899906842624 : Int) < s2.To)))))] ?_
  refine bO h0 (fun h0 => ?_) (fun h0 => ?_)
  · refine aN ?_
    refine aU aD 2 ?_
    refine fS 0 lo1 1 0 (eL (eI) ([])) (.sl true 0 (fun _ => .bad)) [(eL (eI) ([]))] [(lo1, 1, [(.sl true 0 (fun _ => .bad))]), (lo2, 1, [(eI 0)])] hO rfl (by kernel_rfl) ?_
    intro H hO
    refine fS 1 lo2 1 0 (eI 0) (eI (14 : Int)) [(eI 0)] [(lo1, 1, [(.sl true 0 (fun _ => .bad))]), (lo2, 1, [(eI (14 : Int))])] hO rfl (by kernel_rfl) ?_
    intro H hO
    refine dJ ?_
    refine pH 0 lo1 1 (.sl true 0 (fun _ => .bad)) (eL (eI) ([])) [(lo1, 1, [(eL (eI) ([]))]), (lo2, 1, [(eI (14 : Int))])] hO (by kernel_rfl) (by kernel_rfl) kP (by kernel_rfl) ?_
    intro H hO
    refine bB [(10, (.lp lo1 0 0)), (11, (.lp lo2 0 0))] ?_
    refine bI ?_
    obtain rfl := oI h0
    exact aG (bF (aT (QM0 (.inr rfl) (rs := [.cell 10 30, .cell 11 22]) (xs := [(eL (eI) ([])), (eI (14 : Int))]) (x := (.tup [(eL (eI) ([])), (eI (14 : Int))])) (by kernel_rfl) (fN (lo := lo1) (k := 1) (y := (eL (eI) ([]))) (x := (eL (eI) ([]))) 0 hO (by kernel_rfl) (by kernel_rfl) (by kernel_rfl) (by kernel_rfl) (fN (lo := lo2) (k := 1) (y := (eI (14 : Int))) (x := (eI (14 : Int))) 1 hO (by kernel_rfl) (by kernel_rfl) (by kernel_rfl) (by kernel_rfl) lO)) (by kernel_rfl) ⟨rfl, hO.out⟩)))
  refine bQ ?_
  refine eX [(0, (eI iP)), (1, (eI hop1)), (3, (eI iH)), (4, (eI eY)), (7, (.rp (bW s2))), (10, (.lp lo1 0 0)), (11, (.lp lo2 0 0))] ?_
  refine aG (aY (aH (?_)))
  refine aN ?_
  refine aU aD 3 ?_
  refine qN (xs := []) (k := 1) (by kernel_rfl) (by kernel_rfl) ?_
  refine wW 1 (.sl true 0 (fun _ => .bad)) (eL (eI) ([])) (by kernel_rfl) (by kernel_rfl) (by kernel_rfl) (kP) (by kernel_rfl) (by kernel_rfl) hO ?_
  intro lo15 H hO
  refine YF 44 1 (fun _ => .bad) (by kernel_rfl) hO (by kernel_rfl) ?_
  intro lo16 H hO
  refine fS 2 lo15 1 0 (eL (eI) ([])) (.msl 1 lo16 0 (List.length ([] : List Int))) [(eL (eI) ([]))] [(lo1, 1, [(eL (eI) ([]))]), (lo2, 1, [(eI 0)]), (lo15, 1, [(.msl 1 lo16 0 (List.length ([] : List Int)))]), (lo16, 1, List.map (eI) ([] : List Int))] hO rfl (by kernel_rfl) ?_
  intro H hO
  refine dJ ?_
  refine bT [] [(12, (.lp lo15 0 0))] ?_
  refine aN ?_
  refine aN ?_
  refine aU aD 6 ?_
  refine bK 5 ?_
  obtain ⟨x17, hx18, h0⟩ := aV h0
  refine dU (EP iP hop1 s2 iH eY _ hx18) hO ?_
  intro H hO
  refine dJ ?_
  refine bT [0, 1, 3, 4, 7] [(50, (.fn (.func 54) [] [(.rp (eI x17.1)), (.rp (bW x17.2.1)), (.rp (eI x17.2.2.1)), (.rp (eI x17.2.2.2.1)), (.rp (eI x17.2.2.2.2))]))] ?_
  refine cB 1 ?_
  refine fH [(10, (.lp lo1 0 0)), (11, (.lp lo2 0 0)), (12, (.lp lo15 0 0)), (50, (.fn (.func 54) [] [(.rp (eI x17.1)), (.rp (bW x17.2.1)), (.rp (eI x17.2.2.1)), (.rp (eI x17.2.2.2.1)), (.rp (eI x17.2.2.2.2))]))] ?_
  refine fI (fun T H => ∃ t10 : (List Int), ∃ t11 : Int, ∃ iF : List Int, ∃ tH : Int, ∃ tO : bJ, ∃ tF : Int, ∃ tG : Int, ∃ tE : Int, ∃ lo19 : Nat, Has T [(10, (.lp lo1 0 0)), (11, (.lp lo2 0 0)), (12, (.lp lo15 0 0)), (50, (.fn (.func 54) [] [(.rp (eI tH)), (.rp (bW tO)), (.rp (eI tF)), (.rp (eI tG)), (.rp (eI tE))]))] ∧ aK ⟨H0, [], []⟩ H [(lo1, 1, [(eL (eI) t10)]), (lo2, 1, [(eI t11)]), (lo15, 1, [(.msl 1 lo19 0 (List.length iF))]), (lo19, 1, List.map (eI) iF)] ∧ uQ t10 t11 iF tH tO tF tG tE = some r) ?_ ⟨[], 0, ([] : List Int), x17.1, x17.2.1, x17.2.2.1, x17.2.2.2.1, x17.2.2.2.2, lo16, .eq (by kernel_rfl), hO, h0⟩
  clear hO h0
  rintro T H ⟨t10, t11, iF, tH, tO, tF, tG, tE, lo19, hT, hO, h0⟩
  refine bH (l := [(10, (.lp lo1 0 0)), (11, (.lp lo2 0 0)), (12, (.lp lo15 0 0)), (50, (.fn (.func 54) [] [(.rp (eI tH)), (.rp (bW tO)), (.rp (eI tF)), (.rp (eI tG)), (.rp (eI tE))]))]) hT ?_
  clear hT
  unfold uQ at h0
  obtain ⟨o0, hl0, h0⟩ := aV h0
  refine wK (fid := 54) (ys := []) (cs := [(.rp (eI tH)), (.rp (bW tO)), (.rp (eI tF)), (.rp (eI tG)), (.rp (eI tE))]) #[51] (fun (A : qX) (b lL : Nat) (st : ((List Int) × Int × List Int) ⊕ ((List Int) × Int × List Int)) (G' : Gs) => Sum.elim (fun (s : (List Int) × Int × List Int) => ∃ lo19 : Nat, G' = (lL, .raw (fM b A .ready none)) :: (up [(lo1, 1, [(eL (eI) s.1)]), (lo2, 1, [(eI s.2.1)]), (lo15, 1, [(.msl 1 lo19 0 (List.length s.2.2))]), (lo19, 1, List.map (eI) s.2.2)] ++ [])) (fun (s : (List Int) × Int × List Int) => ∃ lo19 : Nat, G' = (lL, .raw (fM b A .done (some .ret))) :: (up [(lo1, 1, [(eL (eI) s.1)]), (lo2, 1, [(eI s.2.1)]), (lo15, 1, [(.msl 1 lo19 0 (List.length s.2.2))]), (lo19, 1, List.map (eI) s.2.2)] ++ [])) st) (.inl (t10, t11, iF)) o0 (.tup []) (by kernel_rfl) (by kernel_rfl) (by kernel_rfl) hO (fun _ _ => ⟨lo19, rfl⟩) ?_ ?_
  · intro b lL
    clear hO h0
    refine zK _ b (fun st t51 => rnd (fun (s : (List Int) × Int × List Int) => lG tH tO tF tG tE s.1 s.2.1 s.2.2 t51) st) ?_ tH tO tF tG tE _ _ hl0
    intro st t51 out1 rr hr
    obtain ⟨s, rfl, h1, rfl⟩ := GM hr
    clear hr
    intro Hr Gr hi hg
    obtain ⟨t10, t11, iF⟩ := s
    dsimp only [Sum.elim_inl] at hi
    obtain ⟨lo19, rfl⟩ := hi
    replace h1 : lG tH tO tF tG tE t10 t11 iF t51 = some out1 := h1
    unfold lG at h1
    obtain ⟨E1, hE, hO⟩ := pL hg
    refine pM (uV (hO.gm 0 _ rfl).2 (by kernel_rfl) (by kernel_rfl) ?_)
    refine fH [(10, (.lp lo1 0 0)), (11, (.lp lo2 0 0)), (12, (.lp lo15 0 0)), (50, (.fn (.func 54) [] [(.rp (eI tH)), (.rp (bW tO)), (.rp (eI tF)), (.rp (eI tG)), (.rp (eI tE))])), (51, (eI t51))] ?_
    refine aU aD 1 ?_
    refine bA ?_
    refine eX [(10, (.lp lo1 0 0)), (11, (.lp lo2 0 0)), (12, (.lp lo15 0 0)), (13, (eI t51))] ?_
    refine aG (⟨rfl, rfl, (hO.gm 0 _ rfl).2, ?_⟩)
    intro o1 ho1
    replace hO := hO.mW o1
    refine cB 2 ?_
    refine aN ?_
    refine aN ?_
    refine aU aD 3 ?_
    refine lS 2 lo15 1 0 (.msl 1 lo19 0 (List.length iF)) (.msl 1 lo19 0 (List.length iF)) [(.msl 1 lo19 0 (List.length iF))] hO rfl ?_
    refine bA ?_
    refine bT [] [(54, (aC (decide ((lN iF) = (1024 : Int)))))] ?_
    refine bO h1 (fun h1 => ?_) (fun h1 => ?_)
    · refine aN ?_
      refine aU aD 2 ?_
      refine fS 0 lo1 1 0 (eL (eI) t10) (.sl true 0 (fun _ => .bad)) [(eL (eI) t10)] [(lo1, 1, [(.sl true 0 (fun _ => .bad))]), (lo2, 1, [(eI t11)]), (lo15, 1, [(.msl 1 lo19 0 (List.length iF))]), (lo19, 1, List.map (eI) iF)] hO rfl (by kernel_rfl) ?_
      intro H hO
      refine fS 1 lo2 1 0 (eI t11) (eI (7 : Int)) [(eI t11)] [(lo1, 1, [(.sl true 0 (fun _ => .bad))]), (lo2, 1, [(eI (7 : Int))]), (lo15, 1, [(.msl 1 lo19 0 (List.length iF))]), (lo19, 1, List.map (eI) iF)] hO rfl (by kernel_rfl) ?_
      intro H hO
      refine dJ ?_
      refine pH 0 lo1 1 (.sl true 0 (fun _ => .bad)) (eL (eI) ([])) [(lo1, 1, [(eL (eI) ([]))]), (lo2, 1, [(eI (7 : Int))]), (lo15, 1, [(.msl 1 lo19 0 (List.length iF))]), (lo19, 1, List.map (eI) iF)] hO (by kernel_rfl) (by kernel_rfl) kP (by kernel_rfl) ?_
      intro H hO
      refine bB [(10, (.lp lo1 0 0)), (11, (.lp lo2 0 0)), (12, (.lp lo15 0 0))] ?_
      refine bI ?_
      refine eX [(10, (.lp lo1 0 0)), (11, (.lp lo2 0 0)), (12, (.lp lo15 0 0))] ?_
      obtain rfl := oI h1
      exact aG (aT (bF (⟨(dD hO hE ho1 .dead).1, rfl, _, ⟨lo19, rfl⟩, (dD hO hE ho1 _).2⟩)))
    refine bQ ?_
    refine bB [(10, (.lp lo1 0 0)), (11, (.lp lo2 0 0)), (12, (.lp lo15 0 0)), (13, (eI t51))] ?_
    refine aU aD 5 ?_
    refine lS 2 lo15 1 0 (.msl 1 lo19 0 (List.length iF)) (.msl 1 lo19 0 (List.length iF)) [(.msl 1 lo19 0 (List.length iF))] hO rfl ?_
    refine bK 2 ?_
    refine qN (xs := [(eI t51)]) (k := 1) (by kernel_rfl) (by kernel_rfl) ?_
    obtain ⟨c22, h1⟩ := aZ h1
    refine wY (e := (eI)) iF ([t51]) 3 lo19 1 8 (gI [(eI t51)]) (fun lo21 => [(lo1, 1, [(eL (eI) t10)]), (lo2, 1, [(eI t11)]), (lo15, 1, [(.msl 1 lo19 0 (List.length iF))]), (lo21, 1, List.map (eI) (iF ++ ([t51])))]) (by kernel_rfl) (by kernel_rfl) hO (by kernel_rfl) (by kernel_rfl) c22 (fun _ => by kernel_rfl) ?_
    intro lo21 H hO
    refine fS 2 lo15 1 0 (.msl 1 lo19 0 (List.length iF)) (.msl 1 lo21 0 (List.length (iF ++ ([t51])))) [(.msl 1 lo19 0 (List.length iF))] [(lo1, 1, [(eL (eI) t10)]), (lo2, 1, [(eI t11)]), (lo15, 1, [(.msl 1 lo21 0 (List.length (iF ++ ([t51]))))]), (lo21, 1, List.map (eI) (iF ++ ([t51])))] hO rfl (by kernel_rfl) ?_
    intro H hO
    refine dJ ?_
    refine eX [(10, (.lp lo1 0 0)), (11, (.lp lo2 0 0)), (12, (.lp lo15 0 0))] ?_
    obtain rfl := oI h1
    exact aG (aY (⟨(dD hO hE ho1 .dead).1, rfl, _, ⟨lo21, rfl⟩, (dD hO hE ho1 _).2⟩))
  · intro b lD23 lL H' G' hi hO
    rcases o0 with s | s
    · dsimp only [Sum.elim_inl] at hi
      obtain ⟨lo19, rfl⟩ := hi
      replace h0 : (some (s.2.2, (0 : Int))) = some r := h0
      obtain ⟨hlL, hO⟩ := lI hO
      refine ⟨_, _, hlL, (by intro e; cases e), ?_⟩
      refine eX [(10, (.lp lo1 0 0)), (11, (.lp lo2 0 0)), (12, (.lp lo15 0 0))] ?_
      refine aG (aY (aH (?_)))
      refine aN ?_
      refine HV (e := (eI)) s.2.2 2 3 1 1 lo15 lo19 (List.length s.2.2) [(lo1, 1, [(eL (eI) s.1)]), (lo2, 1, [(eI s.2.1)]), (lo15, 1, [(eL (eI) s.2.2)])] hO (by kernel_rfl) (by kernel_rfl) (by kernel_rfl) (.inr (by decide)) (by kernel_rfl) ?_
      intro H hO
      refine aU aD 3 ?_
      refine lS 2 lo15 1 0 (eL (eI) s.2.2) (eL (eI) s.2.2) [(eL (eI) s.2.2)] hO rfl ?_
      refine fS 0 lo1 1 0 (eL (eI) s.1) (eL (eI) s.2.2) [(eL (eI) s.1)] [(lo1, 1, [(eL (eI) s.2.2)]), (lo2, 1, [(eI s.2.1)]), (lo15, 1, [(eL (eI) s.2.2)])] hO rfl (by kernel_rfl) ?_
      intro H hO
      refine fS 1 lo2 1 0 (eI s.2.1) (eI (0 : Int)) [(eI s.2.1)] [(lo1, 1, [(eL (eI) s.2.2)]), (lo2, 1, [(eI (0 : Int))]), (lo15, 1, [(eL (eI) s.2.2)])] hO rfl (by kernel_rfl) ?_
      intro H hO
      refine dJ ?_
      replace hO := hO.pick (L' := [(lo1, 1, [(eL (eI) s.2.2)]), (lo2, 1, [(eI (0 : Int))])]) [0, 1] (by decide) (by kernel_rfl)
      refine bT [12] [] ?_
      refine bI ?_
      obtain rfl := oI h0
      have hD := (hO.gm 0 _ rfl).2
      replace hO := (hO.mW .dead).nS
      exact aG (QM1 (.inr rfl) hD (rs := [.cell 10 30, .cell 11 22]) (xs := [(eL (eI) s.2.2), (eI (0 : Int))]) (x := (.tup [(eL (eI) s.2.2), (eI (0 : Int))])) (by kernel_rfl) (fN (lo := lo1) (k := 1) (y := (eL (eI) s.2.2)) (x := (eL (eI) s.2.2)) 0 hO (by kernel_rfl) (by kernel_rfl) (by kernel_rfl) (by kernel_rfl) (fN (lo := lo2) (k := 1) (y := (eI (0 : Int))) (x := (eI (0 : Int))) 1 hO (by kernel_rfl) (by kernel_rfl) (by kernel_rfl) (by kernel_rfl) lO)) (by kernel_rfl) ⟨rfl, hO.out⟩)
    · dsimp only [Sum.elim_inr] at hi
      obtain ⟨lo19, rfl⟩ := hi
      replace h0 : (some (s.1, s.2.1)) = some r := h0
      obtain ⟨hlL, hO⟩ := lI hO
      refine ⟨_, _, hlL, (by intro e; cases e), ?_⟩
      refine bI ?_
      replace hO := hO.pick (L' := [(lo1, 1, [(eL (eI) s.1)]), (lo2, 1, [(eI s.2.1)])]) [0, 1] (by decide) (by kernel_rfl)
      obtain rfl := oI h0
      have hD := (hO.gm 0 _ rfl).2
      replace hO := (hO.mW .dead).nS
      exact aG (bF (aT (QM1 (.inr rfl) hD (rs := [.cell 10 30, .cell 11 22]) (xs := [(eL (eI) s.1), (eI s.2.1)]) (x := (.tup [(eL (eI) s.1), (eI s.2.1)])) (by kernel_rfl) (fN (lo := lo1) (k := 1) (y := (eL (eI) s.1)) (x := (eL (eI) s.1)) 0 hO (by kernel_rfl) (by kernel_rfl) (by kernel_rfl) (by kernel_rfl) (fN (lo := lo2) (k := 1) (y := (eI s.2.1)) (x := (eI s.2.1)) 1 hO (by kernel_rfl) (by kernel_rfl) (by kernel_rfl) (by kernel_rfl) lO)) (by kernel_rfl) ⟨rfl, hO.out⟩)))

theorem AW (l0 : (List aM)) (r : (List aM)) (h0 : nW l0 = some r) : dG Try.prog 56 [(eL aL l0)] (.fn (.func 74) [] [(.rp (eL aL r))]) := by
  intro H0
  refine dF Try.func56 ?_
  have hO := aK.start H0
  unfold nW at h0
  refine aN ?_
  refine aU aD 2 ?_
  refine gK 1 (eL aL l0) (by kernel_rfl) (by kernel_rfl) ?_
  refine bA ?_
  refine bB [(1, (.rp (eL aL l0)))] ?_
  refine cH aD 2 [(2, (.fn (.func 74) [] [(.rp (eL aL l0))]))] ?_
  refine bI ?_
  obtain rfl := oI h0
  exact aG (kY (x := (.fn (.func 74) [] [(.rp (eL aL l0))])) (by kernel_rfl) (aO.refl _) ⟨rfl, hO.out⟩)

theorem uX (s10 : (List aE)) (s21 : (List aE)) (r : Bool) (h0 : jO s10 s21 = some r) : dG Try.prog 76 [(eL aI s10), (eL aI s21)] (aC r) := by
  intro H0
  refine dF Try.func76 ?_
  have hO := aK.start H0
  unfold jO at h0
  refine aW aD 1 [] [] ?_
  refine aN ?_
  refine aW aD 5 [] [(10, (aC (!decide ((lN s10) = (lN s21)))))] ?_
  refine bO h0 (fun h0 => ?_) (fun h0 => ?_)
  · refine cH aD 1 [(4, (aC false))] ?_
    refine bI ?_
    obtain rfl := oI h0
    exact aG (aT (Q_r hO))
  refine bQ ?_
  refine bB [(0, (eL aI s10)), (1, (eL aI s21))] ?_
  refine gX (fun T H => Has T [] ∧ aK ⟨H0, [], []⟩ H [] ∧ gO  = some r) ?_ ?_
  · clear hO h0
    rintro T H ⟨hT, hO, h0⟩
    refine bH hT ?_
    clear hT
    unfold gO at h0
    refine cH aD 1 [(4, (aC true))] ?_
    refine bI ?_
    obtain rfl := oI h0
    exact aG (Q_r hO)
  refine aW aD 3 [] [(12, (eI (lN s10))), (13, (eI (0 : Int)))] ?_
  refine cB 0 ?_
  refine fH [(0, (eL aI s10)), (1, (eL aI s21)), (12, (eI (lN s10))), (13, (eI (0 : Int)))] ?_
  refine fI (fun T H => ∃ t12 : Int, ∃ t13 : Int, Has T [(0, (eL aI s10)), (1, (eL aI s21)), (12, (eI t12)), (13, (eI t13))] ∧ aK ⟨H0, [], []⟩ H [] ∧ jH s10 s21 t12 t13 = some r) ?_ ⟨(lN s10), (0 : Int), .eq (by kernel_rfl), hO, h0⟩
  clear hO h0
  rintro T H ⟨t12, t13, hT, hO, h0⟩
  refine bH hT ?_
  clear hT
  unfold jH at h0
  obtain ⟨rr0, hl0, h0⟩ := aV h0
  refine dM (by kernel_rfl) (fun (s : Int) T H => Has T [(0, (eL aI s10)), (1, (eL aI s21)), (12, (eI t12)), (13, (eI s))] ∧ aK ⟨H0, [], []⟩ H []) hl0 ⟨.eq (by kernel_rfl), hO⟩ ?_
  clear hO
  rintro k0 s out1 T H ⟨hT, hO⟩ h1 ho0
  obtain ⟨t13, rfl⟩ : ∃ x, x = s := ⟨_, rfl⟩
  replace h1 : eV s10 s21 t12 t13 = some out1 := h1
  refine bH hT ?_
  clear hT
  unfold eV at h1
  refine aW aD 1 [] [(14, (aC (decide (t13 < t12))))] ?_
  refine aN ?_
  refine bO h1 (fun h1 => ?_) (fun h1 => ?_)
  · refine bQ ?_
    refine bB [(0, (eL aI s10)), (1, (eL aI s21)), (12, (eI t12)), (13, (eI t13))] ?_
    refine aN ?_
    refine cB 1 ?_
    refine aW aD 2 [] [(5, (eI t13))] ?_
    refine aN ?_
    refine fX (gC [19, 23]) aD 9 ?_
    obtain ⟨c3, h1⟩ := aZ h1
    obtain ⟨c4, h1⟩ := aZ h1
    refine IG (Ds := [0 ≤ t13 ∧ t13 < (lN s10), 0 ≤ t13 ∧ t13 < (lN s21)]) (by kernel_rfl) ⟨c3, c4, trivial⟩ ?_
    refine bT [5] [(24, (aC (!((decide (((gD s10 t13).Kind) = ((gD s21 t13).Kind))) && ((decide (((gD s10 t13).Num) = ((gD s21 t13).Num))) && ((nR ((gD s10 t13).Text) ((gD s21 t13).Text)) && true))))))] ?_
    refine bO h1 (fun h1 => ?_) (fun h1 => ?_)
    · refine cH aD 1 [(4, (aC false))] ?_
      refine bI ?_
      obtain rfl := oI h1
      obtain rfl : _ = rr0 := ho0
      replace h0 : some false = some r := h0
      obtain rfl := oI h0
      exact aG (bF (aT (aT (bF (aT (Q_r hO))))))
    refine bQ ?_
    refine eX [(0, (eL aI s10)), (1, (eL aI s21)), (12, (eI t12)), (13, (eI t13))] ?_
    refine aG (aY (aH (?_)))
    refine aU aD 2 ?_
    refine bA ?_
    exact aG (aH (⟨rfl, _, (oI h1).symm, .eq (by kernel_rfl), hO⟩))
  refine iJ 0 ?_
  obtain rfl := oI h1
  obtain rfl : _ = rr0 := ho0
  replace h0 : gO  = some r := h0
  exact aG (aX (aX (bX (aH (⟨rfl, .eq (by kernel_rfl), hO, h0⟩)))))

theorem IJ (a0 : (List aE)) (b1 : (List aE)) (r : Bool) (h0 : qP a0 b1 = some r) : dG Try.prog 58 [(eL aI a0), (eL aI b1)] (aC r) := by
  intro H0
  refine dF Try.func58 ?_
  have hO := aK.start H0
  unfold qP at h0
  refine aW aD 1 [] [] ?_
  refine aN ?_
  refine aU aD 4 ?_
  refine bK 2 ?_
  obtain ⟨x1, hx2, h0⟩ := aV h0
  refine dU (uX a0 b1 _ hx2) hO ?_
  intro H hO
  refine bA ?_
  refine bB [(4, (aC x1))] ?_
  refine bI ?_
  obtain rfl := oI h0
  exact aG (Q_r hO)

theorem CB (r0 : (List aE)) (r : (List aE)) (h0 : qQ r0 = some r) : dG Try.prog 59 [(eL aI r0)] (eL aI r) := by
  intro H0
  refine dF Try.func59 ?_
  have hO := aK.start H0
  unfold qQ at h0
  refine aW aD 1 [] [] ?_
  refine aN ?_
  refine aU aD 6 ?_
  refine bK 2 ?_
  obtain ⟨c1, h0⟩ := aZ h0
  refine KI 3 32 (lN r0) (by kernel_rfl) (by kernel_rfl) c1 hO ?_
  intro lo2 H hO
  refine bK 4 ?_
  obtain ⟨c4, h0⟩ := aZ h0
  refine wY (e := aI) ([] : List aE) r0 0 lo2 3 32 (eL aI r0) (fun lo3 => [(lo3, 3, List.map aI (([] : List aE) ++ r0))]) (by kernel_rfl) (by kernel_rfl) hO (by kernel_rfl) (TB (fun _ => by kernel_rfl)) c4 (fun _ => by kernel_rfl) ?_
  intro lo3 H hO
  refine bA ?_
  refine bB [(2, (.msl 3 lo3 0 (List.length (([] : List aE) ++ r0))))] ?_
  refine bI ?_
  refine eX [(2, (.msl 3 lo3 0 (List.length (([] : List aE) ++ r0))))] ?_
  refine AD (en := aI) (([] : List aE) ++ r0) 0 0 2 3 lo3 (List.length (([] : List aE) ++ r0)) hO (by kernel_rfl) (by kernel_rfl) (by kernel_rfl) (L' := []) (by kernel_rfl) ?_
  intro H5 hO
  obtain rfl := oI h0
  exact aG (Q_r hO)

theorem vE {σ : Type} (I : σ → Gs → Prop) (yield0_b : Nat) (cJ : σ → (List aE) → (List aB) → Option (σ × Bool)) (yield0_h : ∀ st a0 a1 st2 r, cJ st a0 a1 = some (st2, r) → yI Try.prog (yv yield0_b) I st [(eL aI a0), (eL aF a1)] st2 (aC r)) (t1 : (List aM)) (sg0 : σ) (r : σ) (h0 : lZ cJ t1 sg0 = some r) : uJ Try.prog 74 I sg0 [(yv yield0_b), (.rp (eL aL t1))] r (.tup []) := by
  intro H0 G0 hI hg
  refine dF Try.func74 ?_
  obtain ⟨G, hO, hI⟩ : ∃ G, aK ⟨H0, List.map (fun p : Nat × cS => p.1) G0, G⟩ H0 [] ∧ I sg0 G := ⟨G0, aK.BJ hg, hI⟩
  clear hg
  unfold lZ at h0
  refine aW aD 1 [] [(3, (eI (0 : Int)))] ?_
  refine cB 0 ?_
  refine fH [(0, (yv yield0_b)), (1, (.rp (eL aL t1))), (3, (eI (0 : Int)))] ?_
  refine fI (fun T H => ∃ sg : σ, ∃ i3 : Int, ∃ G : Gs, Has T [(0, (yv yield0_b)), (1, (.rp (eL aL t1))), (3, (eI i3))] ∧ aK ⟨H0, List.map (fun p : Nat × cS => p.1) G0, G⟩ H [] ∧ I sg G ∧ qL cJ sg t1 i3 = some r) ?_ ⟨sg0, (0 : Int), G, .eq (by kernel_rfl), hO, hI, h0⟩
  clear hO hI h0
  rintro T H ⟨sg, i3, G, hT, hO, hI, h0⟩
  refine bH hT ?_
  clear hT
  unfold qL at h0
  obtain ⟨rr0, hl0, h0⟩ := aV h0
  refine dM (by kernel_rfl) (fun (s : σ × Int) T H => ∃ G : Gs, Has T [(0, (yv yield0_b)), (1, (.rp (eL aL t1))), (3, (eI s.2))] ∧ aK ⟨H0, List.map (fun p : Nat × cS => p.1) G0, G⟩ H [] ∧ I s.1 G) hl0 ⟨G, .eq (by kernel_rfl), hO, hI⟩ ?_
  clear hO hI
  rintro k0 s out1 T H ⟨G, hT, hO, hI⟩ h1 ho0
  obtain ⟨sg, i3⟩ := s
  replace h1 : iO cJ t1 sg i3 = some out1 := h1
  try dsimp only at hT
  refine bH hT ?_
  clear hT
  unfold iO at h1
  refine aN ?_
  refine aW aD 4 [] [(9, (aC (decide (i3 < (lN t1)))))] ?_
  refine bO h1 (fun h1 => ?_) (fun h1 => ?_)
  · refine bQ ?_
    refine bB [(0, (yv yield0_b)), (1, (.rp (eL aL t1))), (3, (eI i3))] ?_
    refine cB 1 ?_
    refine aN ?_
    refine aU aD 6 ?_
    obtain ⟨c2, h1⟩ := aZ h1
    refine sW [0 ≤ i3 ∧ i3 < (lN t1)] ⟨c2, trivial⟩ ?_
    refine bT [] [(4, (eL aI ((gD t1 i3).Row)))] ?_
    refine aN ?_
    refine aU aD 2 ?_
    refine qN (xs := []) (k := 2) (by kernel_rfl) (by kernel_rfl) ?_
    refine bA ?_
    refine bT [] [(5, (.sl true 0 (fun _ => .bad)))] ?_
    refine gX (fun T H => ∃ sg : σ, ∃ i3 : Int, ∃ r4 : (List aE), ∃ f5 : List aB, ∃ lo3 : Nat, ∃ G : Gs, Has T [(0, (yv yield0_b)), (1, (.rp (eL aL t1))), (3, (eI i3)), (4, (eL aI r4)), (5, (.msl 2 lo3 0 (List.length f5)))] ∧ aK ⟨H0, List.map (fun p : Nat × cS => p.1) G0, G⟩ H [(lo3, 2, List.map aF f5)] ∧ I sg G ∧ oD cJ sg t1 i3 r4 f5 = some out1) ?_ ?_
    · clear hO hI h1
      rintro T H ⟨sg, i3, r4, f5, lo3, G, hT, hO, hI, h1⟩
      refine bH hT ?_
      clear hT
      unfold oD at h1
      refine aN ?_
      refine aU aD 6 ?_
      refine LH (e := aF) f5 0 5 2 lo3 (List.length f5) [] (by kernel_rfl) hO (by kernel_rfl) (by kernel_rfl) (by kernel_rfl) (by kernel_rfl) ?_
      intro H hO
      refine bK 2 ?_
      obtain ⟨x7, hx8, h1⟩ := aV h1
      refine dU (CB r4 _ hx8) hO ?_
      intro H hO
      refine bK 4 ?_
      obtain ⟨x10, hx11, h1⟩ := aV h1
      refine FJ (I := I) (yv yield0_b) [(eL aI x7), (eL aF f5)] (aC x10.2) (by kernel_rfl) (by kernel_rfl) (yield0_h _ x7 f5 x10.1 x10.2 hx11) hO hI ?_
      intro G H hO hI
      refine bA ?_
      refine bT [4, 5] [(50, (aC (!x10.2)))] ?_
      refine bO h1 (fun h1 => ?_) (fun h1 => ?_)
      · refine bI ?_
        obtain rfl := oI h1
        obtain rfl : _ = rr0 := ho0
        replace h0 : some x10.1 = some r := h0
        obtain rfl := oI h0
        exact aG (bF (aT (bF (kY (x := (.tup [])) (by kernel_rfl) (aO.refl _) ⟨rfl, G, hI, hO.wH⟩))))
      refine bQ ?_
      exact aG (aY (aH (⟨rfl, _, (oI h1).symm, _, .eq (by kernel_rfl), hO, hI⟩)))
    refine cB 2 ?_
    refine fH [(0, (yv yield0_b)), (1, (.rp (eL aL t1))), (3, (eI i3)), (4, (eL aI ((gD t1 i3).Row))), (5, (.sl true 0 (fun _ => .bad)))] ?_
    refine QX (el := (fun _ => .bad)) 4 5 2 hO (by kernel_rfl) ?_
    intro lo24 H25 hO
    refine fI (fun T H => ∃ sg : σ, ∃ i3 : Int, ∃ r4 : (List aE), ∃ f5 : List aB, ∃ lo14 : Nat, ∃ G : Gs, Has T [(0, (yv yield0_b)), (1, (.rp (eL aL t1))), (3, (eI i3)), (4, (eL aI r4)), (5, (.msl 2 lo14 0 (List.length f5)))] ∧ aK ⟨H0, List.map (fun p : Nat × cS => p.1) G0, G⟩ H [(lo14, 2, List.map aF f5)] ∧ I sg G ∧ qW cJ sg t1 i3 r4 f5 = some out1) ?_ ⟨sg, i3, (gD t1 i3).Row, ([] : List aB), lo24, G, .eq (by kernel_rfl), hO, hI, h1⟩
    clear hO hI h1
    rintro T H ⟨sg, i3, r4, f5, lo14, G, hT, hO, hI, h1⟩
    refine bH hT ?_
    clear hT
    unfold qW at h1
    obtain ⟨rr1, hl1, h1⟩ := aV h1
    refine dM (by kernel_rfl) (fun (s : σ × Int × List aB) T H => ∃ lo14 : Nat, ∃ G : Gs, Has T [(0, (yv yield0_b)), (1, (.rp (eL aL t1))), (3, (eI s.2.1)), (4, (eL aI r4)), (5, (.msl 2 lo14 0 (List.length s.2.2)))] ∧ aK ⟨H0, List.map (fun p : Nat × cS => p.1) G0, G⟩ H [(lo14, 2, List.map aF s.2.2)] ∧ I s.1 G) hl1 ⟨lo14, G, .eq (by kernel_rfl), hO, hI⟩ ?_
    clear hO hI
    rintro k1 s out2 T H ⟨lo14, G, hT, hO, hI⟩ h2 ho1
    obtain ⟨sg, i3, f5⟩ := s
    replace h2 : jM cJ t1 r4 sg i3 f5 = some out2 := h2
    try dsimp only at hT
    refine bH hT ?_
    clear hT
    unfold jM at h2
    refine aN ?_
    refine aN ?_
    refine aU aD 13 ?_
    obtain ⟨c15, h2⟩ := aZ h2
    refine xX 11 [(((decide (i3 < (lN t1)))) = true → 0 ≤ i3 ∧ i3 < (lN t1))] ⟨c15, trivial⟩ ?_
    obtain ⟨x16, hx17, h2⟩ := aV h2
    refine mB [(20, true)] 58 [(eL aI ((gD t1 i3).Row)), (eL aI r4)] (aC x16) (decide (i3 < (lN t1))) (by kernel_rfl) (by kernel_rfl) (by kernel_rfl) (fun hb18 => (IJ ((gD t1 i3).Row) r4 _ (iW hx17 hb18))) hO ?_
    intro H hO
    refine bA ?_
    refine bT [] [(28, (aC ((decide (i3 < (lN t1))) && x16)))] ?_
    refine bO h2 (fun h2 => ?_) (fun h2 => ?_)
    · refine bQ ?_
      refine bB [(0, (yv yield0_b)), (1, (.rp (eL aL t1))), (3, (eI i3)), (4, (eL aI r4)), (5, (.msl 2 lo14 0 (List.length f5)))] ?_
      refine aN ?_
      refine cB 3 ?_
      refine fX (gC [32, 36, 37, 41, 43]) aD 15 ?_
      obtain ⟨c20, h2⟩ := aZ h2
      obtain ⟨c21, h2⟩ := aZ h2
      refine cD 12 [0 ≤ i3 ∧ i3 < (lN t1), 0 ≤ i3 ∧ i3 < (lN t1)] ⟨c20, c21, trivial⟩ ?_
      refine UM (xs := [(aF (aB.mk ((gD t1 i3).At) ((gD t1 i3).Net)))]) (k := 2) (by kernel_rfl) (by kernel_rfl) ?_
      obtain ⟨c23, h2⟩ := aZ h2
      refine KF (e := aF) f5 ([aB.mk ((gD t1 i3).At) ((gD t1 i3).Net)]) 0 lo14 2 16 (gI [(aF (aB.mk ((gD t1 i3).At) ((gD t1 i3).Net)))]) (fun lo22 => [(lo22, 2, List.map aF (f5 ++ ([aB.mk ((gD t1 i3).At) ((gD t1 i3).Net)])))]) (by kernel_rfl) (by kernel_rfl) hO (by kernel_rfl) (by kernel_rfl) c23 (fun _ => by kernel_rfl) ?_
      intro lo22 H hO
      refine jP ?_
      refine eX [(0, (yv yield0_b)), (1, (.rp (eL aL t1))), (3, (eI i3)), (4, (eL aI r4)), (5, (.msl 2 lo22 0 (List.length (f5 ++ ([aB.mk ((gD t1 i3).At) ((gD t1 i3).Net)])))))] ?_
      refine aG (aY (aH (?_)))
      refine aU aD 3 ?_
      refine bA ?_
      exact aG (aH (⟨rfl, _, (oI h2).symm, _, _, .eq (by kernel_rfl), hO, hI⟩))
    refine iJ 2 ?_
    obtain rfl := oI h2
    obtain rfl : _ = rr1 := ho1
    replace h1 : oD cJ sg t1 i3 r4 f5 = some out1 := h1
    exact aG (aX (aX (bX (aH (⟨rfl, _, _, _, _, _, _, .eq (by kernel_rfl), hO, hI, h1⟩)))))
  refine iJ 0 ?_
  obtain rfl := oI h1
  obtain rfl : _ = rr0 := ho0
  replace h0 : some sg = some r := h0
  obtain rfl := oI h0
  exact aG (aX (aX (bX (wD (x := (.tup [])) (by kernel_rfl) (aO.refl _) ⟨rfl, G, hI, hO.wH⟩))))

theorem sI (s0 : (List aE)) (f1_f : Nat) (f1_a f1_c : List V) (f1 : aE → Option Bool) (f1_h : ∀ a0 r, f1 a0 = some r → dG Try.prog f1_f (f1_a ++ [(aI a0)] ++ f1_c) (aC r)) (r : Int) (h0 : iL s0 f1 = some r) : dG Try.prog 95 [(eL aI s0), (.fn (.func f1_f) f1_a f1_c)] (eI r) := by
  intro H0
  refine dF Try.func95 ?_
  have hO := aK.start H0
  unfold iL at h0
  refine aW aD 1 [] [] ?_
  refine gX (fun T H => Has T [] ∧ aK ⟨H0, [], []⟩ H [] ∧ fC f1  = some r) ?_ ?_
  · clear hO h0
    rintro T H ⟨hT, hO, h0⟩
    refine bH hT ?_
    clear hT
    unfold fC at h0
    refine cH aD 1 [(4, (eI (-1 : Int)))] ?_
    refine bI ?_
    obtain rfl := oI h0
    exact aG (Q_r hO)
  refine aW aD 3 [] [(7, (eI (lN s0))), (8, (eI (0 : Int)))] ?_
  refine cB 0 ?_
  refine fH [(0, (eL aI s0)), (1, (.fn (.func f1_f) f1_a f1_c)), (7, (eI (lN s0))), (8, (eI (0 : Int)))] ?_
  refine fI (fun T H => ∃ t7 : Int, ∃ t8 : Int, Has T [(0, (eL aI s0)), (1, (.fn (.func f1_f) f1_a f1_c)), (7, (eI t7)), (8, (eI t8))] ∧ aK ⟨H0, [], []⟩ H [] ∧ iE f1 s0 t7 t8 = some r) ?_ ⟨(lN s0), (0 : Int), .eq (by kernel_rfl), hO, h0⟩
  clear hO h0
  rintro T H ⟨t7, t8, hT, hO, h0⟩
  refine bH hT ?_
  clear hT
  unfold iE at h0
  obtain ⟨rr0, hl0, h0⟩ := aV h0
  refine dM (by kernel_rfl) (fun (s : Int) T H => Has T [(0, (eL aI s0)), (1, (.fn (.func f1_f) f1_a f1_c)), (7, (eI t7)), (8, (eI s))] ∧ aK ⟨H0, [], []⟩ H []) hl0 ⟨.eq (by kernel_rfl), hO⟩ ?_
  clear hO
  rintro k0 s out1 T H ⟨hT, hO⟩ h1 ho0
  obtain ⟨t8, rfl⟩ : ∃ x, x = s := ⟨_, rfl⟩
  replace h1 : iD f1 s0 t7 t8 = some out1 := h1
  refine bH hT ?_
  clear hT
  unfold iD at h1
  refine aW aD 1 [] [(9, (aC (decide (t8 < t7))))] ?_
  refine aN ?_
  refine bO h1 (fun h1 => ?_) (fun h1 => ?_)
  · refine bQ ?_
    refine bB [(0, (eL aI s0)), (1, (.fn (.func f1_f) f1_a f1_c)), (7, (eI t7)), (8, (eI t8))] ?_
    refine aN ?_
    refine cB 1 ?_
    refine aW aD 2 [] [(5, (eI t8))] ?_
    refine aN ?_
    refine aU aD 6 ?_
    obtain ⟨c2, h1⟩ := aZ h1
    refine xX 5 [0 ≤ t8 ∧ t8 < (lN s0)] ⟨c2, trivial⟩ ?_
    obtain ⟨x3, hx4, h1⟩ := aV h1
    refine dU (f1_h (gD s0 t8) _ hx4) hO ?_
    intro H hO
    refine dJ ?_
    refine bT [] [(16, (aC x3))] ?_
    refine bO h1 (fun h1 => ?_) (fun h1 => ?_)
    · refine cH aD 2 [(4, (eI t8))] ?_
      refine bI ?_
      obtain rfl := oI h1
      obtain rfl : _ = rr0 := ho0
      replace h0 : some t8 = some r := h0
      obtain rfl := oI h0
      exact aG (bF (aT (aT (bF (aT (Q_r hO))))))
    refine bQ ?_
    refine eX [(0, (eL aI s0)), (1, (.fn (.func f1_f) f1_a f1_c)), (7, (eI t7)), (8, (eI t8))] ?_
    refine aG (aY (aH (?_)))
    refine aU aD 2 ?_
    refine bA ?_
    exact aG (aH (⟨rfl, _, (oI h1).symm, .eq (by kernel_rfl), hO⟩))
  refine iJ 0 ?_
  obtain rfl := oI h1
  obtain rfl : _ = rr0 := ho0
  replace h0 : fC f1  = some r := h0
  exact aG (aX (aX (bX (aH (⟨rfl, .eq (by kernel_rfl), hO, h0⟩)))))

theorem rE (s0 : (List aE)) (f1_f : Nat) (f1_a f1_c : List V) (f1 : aE → Option Bool) (f1_h : ∀ a0 r, f1 a0 = some r → dG Try.prog f1_f (f1_a ++ [(aI a0)] ++ f1_c) (aC r)) (r : Bool) (h0 : eU s0 f1 = some r) : dG Try.prog 92 [(eL aI s0), (.fn (.func f1_f) f1_a f1_c)] (aC r) := by
  intro H0
  refine dF Try.func92 ?_
  have hO := aK.start H0
  unfold eU at h0
  refine aW aD 1 [] [] ?_
  refine aN ?_
  refine aU aD 5 ?_
  refine bK 2 ?_
  obtain ⟨x1, hx2, h0⟩ := aV h0
  refine dU (sI s0 f1_f f1_a f1_c f1 f1_h _ hx2) hO ?_
  intro H hO
  refine bA ?_
  refine bB [(4, (aC (decide ((0 : Int) ≤ x1))))] ?_
  refine bI ?_
  obtain rfl := oI h0
  exact aG (Q_r hO)

theorem wA (v0 : aE) (r : (bG × Bool)) (h0 : lK v0 = some r) : dG Try.prog 106 [(aI v0)] (.tup [(bC r.1), (aC r.2)]) := by
  intro H0
  refine dF Try.func106 ?_
  have hO := aK.start H0
  unfold lK at h0
  refine aN ?_
  refine aU aD 3 ?_
  refine gK 3 (aI v0) (by kernel_rfl) (by kernel_rfl) ?_
  refine bA ?_
  refine bB [(1, (.rp (aI v0)))] ?_
  refine aN ?_
  refine cB 0 ?_
  refine aW aD 9 [] [(4, (aC ((decide (v0.Kind = (1 : Int))) && (nR v0.Text (⟨#[]⟩ : ByteArray)))))] ?_
  refine bO h0 (fun h0 => ?_) (fun h0 => ?_)
  · refine cH aD 5 [(2, (bC (bG.k_number v0.Num))), (3, (aC true))] ?_
    refine bI ?_
    obtain rfl := oI h0
    exact aG (bF (aT (Q_r hO)))
  refine aW aD 15 [4] [(16, (aC (((decide (v0.Kind = (2 : Int))) && (decide (v0.Num = (0 : Int)))) && (decide (((ByteArray.size v0.Text : Nat) : Int) ≤ (64 : Int))))))] ?_
  refine bO h0 (fun h0 => ?_) (fun h0 => ?_)
  · refine cH aD 5 [(2, (bC (bG.k_words v0.Text))), (3, (aC true))] ?_
    refine bI ?_
    obtain rfl := oI h0
    exact aG (bF (aT (Q_r hO)))
  refine bQ ?_
  refine eX [] ?_
  refine aG (aY (aH (?_)))
  refine cH aD 2 [(2, (bC bG.none_)), (3, (aC false))] ?_
  refine bI ?_
  obtain rfl := oI h0
  exact aG (Q_r hO)

theorem SH (v0 : aE) (r : Bool) (h0 : tV v0 = some r) : dG Try.prog 94 [(aI v0)] (aC r) := by
  intro H0
  refine dF Try.func94 ?_
  have hO := aK.start H0
  unfold tV at h0
  refine aN ?_
  refine aU aD 2 ?_
  refine gK 3 (aI v0) (by kernel_rfl) (by kernel_rfl) ?_
  refine bA ?_
  refine bB [(1, (.rp (aI v0)))] ?_
  refine aN ?_
  refine aU aD 7 ?_
  refine bK 1 ?_
  obtain ⟨⟨x1_0, x1_1⟩, hx2, h0⟩ := aV h0
  refine dU (wA v0 _ hx2) hO ?_
  intro H hO
  rcases x1_0 with _ | y4 | y5
  · replace h0 : (some x1_1) = some r := h0
    refine bA ?_
    refine bB [(4, (aC x1_1))] ?_
    refine cH aD 2 [(2, (aC x1_1))] ?_
    refine bI ?_
    obtain rfl := oI h0
    exact aG (Q_r hO)
  · replace h0 : (some x1_1) = some r := h0
    refine bA ?_
    refine bB [(4, (aC x1_1))] ?_
    refine cH aD 2 [(2, (aC x1_1))] ?_
    refine bI ?_
    obtain rfl := oI h0
    exact aG (Q_r hO)
  · replace h0 : (some x1_1) = some r := h0
    refine bA ?_
    refine bB [(4, (aC x1_1))] ?_
    refine cH aD 2 [(2, (aC x1_1))] ?_
    refine bI ?_
    obtain rfl := oI h0
    exact aG (Q_r hO)

theorem SS (v0 : aE) (r : Bool) (h0 : uC v0 = some r) : dG Try.prog 93 [(aI v0)] (aC r) := by
  intro H0
  refine dF Try.func93 ?_
  have hO := aK.start H0
  unfold uC at h0
  refine aN ?_
  refine aU aD 2 ?_
  refine gK 3 (aI v0) (by kernel_rfl) (by kernel_rfl) ?_
  refine bA ?_
  refine bB [(1, (.rp (aI v0)))] ?_
  refine aN ?_
  refine aU aD 4 ?_
  refine bK 1 ?_
  obtain ⟨x1, hx2, h0⟩ := aV h0
  refine dU (SH v0 _ hx2) hO ?_
  intro H hO
  refine bA ?_
  refine bB [(2, (aC (!x1)))] ?_
  refine bI ?_
  obtain rfl := oI h0
  exact aG (Q_r hO)

theorem EB (r0 : (List aE)) (r : Bool) (h0 : sR r0 = some r) : dG Try.prog 71 [(eL aI r0)] (aC r) := by
  intro H0
  refine dF Try.func71 ?_
  have hO := aK.start H0
  unfold sR at h0
  refine aW aD 1 [] [] ?_
  refine aN ?_
  refine aW aD 3 [] [(5, (aC (decide ((8 : Int) < (lN r0)))))] ?_
  refine bO h0 (fun h0 => ?_) (fun h0 => ?_)
  · refine cH aD 1 [(2, (aC false))] ?_
    refine bI ?_
    obtain rfl := oI h0
    exact aG (aT (Q_r hO))
  refine bQ ?_
  refine bB [(0, (eL aI r0))] ?_
  refine aN ?_
  refine aU aD 4 ?_
  refine bK 1 ?_
  obtain ⟨x2, hx3, h0⟩ := aV h0
  refine dU (rE r0 93 [] [] (fun y0 => uC y0) (fun y0 r h => SS y0 r h) _ hx3) hO ?_
  intro H hO
  refine bA ?_
  refine bB [(2, (aC (!x2)))] ?_
  refine bI ?_
  obtain rfl := oI h0
  exact aG (Q_r hO)

theorem JJ (t0 : (List aE)) (r : (Int × (List aE))) (h0 : sB t0 = some r) : xA Try.prog 96 [(.rp (eL aI t0))] (fun lo => (.fn (.func 97) [] [(.lp lo 0 0), (.rp (eL aI r.2))])) 1 [(eI r.1)] := by
  intro H0
  refine dF Try.func96 ?_
  have hO := aK.start H0
  unfold sB at h0
  refine aW aD 1 [] [] ?_
  refine aN ?_
  refine aU aD 2 ?_
  refine jN 1 (eI 0) (by kernel_rfl) (by kernel_rfl) hO ?_
  intro lo1 H hO
  refine fS 0 lo1 1 0 (eI 0) (eI (-1 : Int)) [(eI 0)] [(lo1, 1, [(eI (-1 : Int))])] hO rfl (by kernel_rfl) ?_
  intro H hO
  refine dJ ?_
  refine bT [] [(2, (.lp lo1 0 0))] ?_
  refine aW aD 2 [0] [(1, (.fn (.func 97) [] [(.lp lo1 0 0), (.rp (eL aI t0))]))] ?_
  refine bI ?_
  obtain rfl := oI h0
  exact aG (kY (x := (.fn (.func 97) [] [(.lp lo1 0 0), (.rp (eL aI t0))])) (by kernel_rfl) (aO.refl _) ⟨lo1, rfl, hO⟩)

theorem rW {σ : Type} (I : σ → Gs → Prop) (s0 : (List aE)) (f1_v : V) (f1 : σ → aE → Option (σ × Bool)) (f1_h : ∀ st a0 st2 r, f1 st a0 = some (st2, r) → yI Try.prog f1_v I st [(aI a0)] st2 (aC r)) (sg0 : σ) (r : (σ × Int)) (h0 : hY s0 f1 sg0 = some r) : uJ Try.prog 95 I sg0 [(eL aI s0), f1_v] r.1 (eI r.2) := by
  intro H0 G0 hI hg
  refine dF Try.func95 ?_
  obtain ⟨G, hO, hI⟩ : ∃ G, aK ⟨H0, List.map (fun p : Nat × cS => p.1) G0, G⟩ H0 [] ∧ I sg0 G := ⟨G0, aK.BJ hg, hI⟩
  clear hg
  unfold hY at h0
  refine aW aD 1 [] [] ?_
  refine gX (fun T H => ∃ sg : σ, ∃ G : Gs, Has T [] ∧ aK ⟨H0, List.map (fun p : Nat × cS => p.1) G0, G⟩ H [] ∧ I sg G ∧ eT f1 sg = some r) ?_ ?_
  · clear hO hI h0
    rintro T H ⟨sg, G, hT, hO, hI, h0⟩
    refine bH hT ?_
    clear hT
    unfold eT at h0
    refine cH aD 1 [(4, (eI (-1 : Int)))] ?_
    refine bI ?_
    obtain rfl := oI h0
    exact aG (kY (x := (eI (-1 : Int))) (by kernel_rfl) (aO.refl _) ⟨rfl, G, hI, hO.wH⟩)
  refine aW aD 3 [] [(7, (eI (lN s0))), (8, (eI (0 : Int)))] ?_
  refine cB 0 ?_
  refine fH [(0, (eL aI s0)), (1, f1_v), (7, (eI (lN s0))), (8, (eI (0 : Int)))] ?_
  refine fI (fun T H => ∃ sg : σ, ∃ t7 : Int, ∃ t8 : Int, ∃ G : Gs, Has T [(0, (eL aI s0)), (1, f1_v), (7, (eI t7)), (8, (eI t8))] ∧ aK ⟨H0, List.map (fun p : Nat × cS => p.1) G0, G⟩ H [] ∧ I sg G ∧ gV f1 sg s0 t7 t8 = some r) ?_ ⟨sg0, (lN s0), (0 : Int), G, .eq (by kernel_rfl), hO, hI, h0⟩
  clear hO hI h0
  rintro T H ⟨sg, t7, t8, G, hT, hO, hI, h0⟩
  refine bH hT ?_
  clear hT
  unfold gV at h0
  obtain ⟨rr0, hl0, h0⟩ := aV h0
  refine dM (by kernel_rfl) (fun (s : σ × Int) T H => ∃ G : Gs, Has T [(0, (eL aI s0)), (1, f1_v), (7, (eI t7)), (8, (eI s.2))] ∧ aK ⟨H0, List.map (fun p : Nat × cS => p.1) G0, G⟩ H [] ∧ I s.1 G) hl0 ⟨G, .eq (by kernel_rfl), hO, hI⟩ ?_
  clear hO hI
  rintro k0 s out1 T H ⟨G, hT, hO, hI⟩ h1 ho0
  obtain ⟨sg, t8⟩ := s
  replace h1 : cC f1 s0 t7 sg t8 = some out1 := h1
  try dsimp only at hT
  refine bH hT ?_
  clear hT
  unfold cC at h1
  refine aW aD 1 [] [(9, (aC (decide (t8 < t7))))] ?_
  refine aN ?_
  refine bO h1 (fun h1 => ?_) (fun h1 => ?_)
  · refine bQ ?_
    refine bB [(0, (eL aI s0)), (1, f1_v), (7, (eI t7)), (8, (eI t8))] ?_
    refine aN ?_
    refine cB 1 ?_
    refine aW aD 2 [] [(5, (eI t8))] ?_
    refine aN ?_
    refine aU aD 6 ?_
    obtain ⟨c2, h1⟩ := aZ h1
    refine xX 5 [0 ≤ t8 ∧ t8 < (lN s0)] ⟨c2, trivial⟩ ?_
    obtain ⟨x3, hx4, h1⟩ := aV h1
    refine FJ (I := I) f1_v [(aI (gD s0 t8))] (aC x3.2) (by kernel_rfl) (by kernel_rfl) (f1_h _ (gD s0 t8) x3.1 x3.2 hx4) hO hI ?_
    intro G H hO hI
    refine dJ ?_
    refine bT [] [(16, (aC x3.2))] ?_
    refine bO h1 (fun h1 => ?_) (fun h1 => ?_)
    · refine cH aD 2 [(4, (eI t8))] ?_
      refine bI ?_
      obtain rfl := oI h1
      obtain rfl : _ = rr0 := ho0
      replace h0 : some (x3.1, t8) = some r := h0
      obtain rfl := oI h0
      exact aG (bF (aT (aT (bF (aT (kY (x := (eI t8)) (by kernel_rfl) (aO.refl _) ⟨rfl, G, hI, hO.wH⟩))))))
    refine bQ ?_
    refine eX [(0, (eL aI s0)), (1, f1_v), (7, (eI t7)), (8, (eI t8))] ?_
    refine aG (aY (aH (?_)))
    refine aU aD 2 ?_
    refine bA ?_
    exact aG (aH (⟨rfl, _, (oI h1).symm, _, .eq (by kernel_rfl), hO, hI⟩))
  refine iJ 0 ?_
  obtain rfl := oI h1
  obtain rfl : _ = rr0 := ho0
  replace h0 : eT f1 sg = some r := h0
  exact aG (aX (aX (bX (aH (⟨rfl, _, _, .eq (by kernel_rfl), hO, hI, h0⟩)))))

theorem FK (v0 : aE) (lo1p : Nat) (t1 : Int) (t2 : (List aE)) (r : (Bool × Int)) (h0 : jT v0 t1 t2 = some r) : mV Try.prog 97 lo1p 1 [(eI t1)] [(eI r.2)] [(aI v0), (.lp lo1p 0 0), (.rp (eL aI t2))] (aC r.1) := by
  intro H0 hl0
  refine dF Try.func97 ?_
  have hO := aK.rI hl0
  clear hl0
  unfold jT at h0
  refine aN ?_
  refine aU aD 2 ?_
  refine gK 3 (aI v0) (by kernel_rfl) (by kernel_rfl) ?_
  refine bA ?_
  refine bT [0] [(3, (.rp (aI v0)))] ?_
  refine aN ?_
  refine aU aD 3 ?_
  refine lS 0 lo1p 1 0 (eI t1) (eI t1) [(eI t1)] hO rfl ?_
  refine bK 2 ?_
  refine fS 0 lo1p 1 0 (eI t1) (eI (wR (t1 + (1 : Int)))) [(eI t1)] [(lo1p, 1, [(eI (wR (t1 + (1 : Int))))])] hO rfl (by kernel_rfl) ?_
  intro H hO
  refine dJ ?_
  refine bT [] [] ?_
  refine aN ?_
  refine fX (gC [7, 8, 11]) aD 7 ?_
  refine lT 2 ?_
  refine gZ 0 lo1p 1 0 (eI (wR (t1 + (1 : Int)))) (eI (wR (t1 + (1 : Int)))) [(eI (wR (t1 + (1 : Int))))] hO rfl ?_
  obtain ⟨c1, h0⟩ := aZ h0
  refine IG (Ds := [0 ≤ (wR (t1 + (1 : Int))) ∧ (wR (t1 + (1 : Int))) < (lN t2)]) (by kernel_rfl) ⟨c1, trivial⟩ ?_
  refine bB [(1, (.lp lo1p 0 0)), (4, (aC (!((decide (v0.Kind = ((gD t2 (wR (t1 + (1 : Int)))).Kind))) && ((decide (v0.Num = ((gD t2 (wR (t1 + (1 : Int)))).Num))) && ((nR v0.Text ((gD t2 (wR (t1 + (1 : Int)))).Text)) && true))))))] ?_
  refine bI ?_
  obtain rfl := oI h0
  exact aG (kY (x := (aC (!((decide (v0.Kind = ((gD t2 (wR (t1 + (1 : Int)))).Kind))) && ((decide (v0.Num = ((gD t2 (wR (t1 + (1 : Int)))).Num))) && ((nR v0.Text ((gD t2 (wR (t1 + (1 : Int)))).Text)) && true)))))) (by kernel_rfl) (aO.refl _) ⟨rfl, hO.ext, hO.at 0 (by kernel_rfl), rfl⟩)

theorem rZ (x0 : Int) (r : Bool) (h0 : kX x0 = some r) : dG Try.prog 105 [(eI x0)] (aC r) := by
  intro H0
  refine dF Try.func105 ?_
  have hO := aK.start H0
  unfold kX at h0
  refine aW aD 1 [] [] ?_
  refine cH aD 4 [(2, (aC (!decide (x0 = x0))))] ?_
  refine bI ?_
  obtain rfl := oI h0
  exact aG (Q_r hO)

theorem FN (x0 : Int) (y1 : Int) (r : Int) (h0 : nQ x0 y1 = some r) : dG Try.prog 98 [(eI x0), (eI y1)] (eI r) := by
  intro H0
  refine dF Try.func98 ?_
  have hO := aK.start H0
  unfold nQ at h0
  refine aW aD 1 [] [] ?_
  refine aN ?_
  refine aU aD 3 ?_
  refine bK 1 ?_
  obtain ⟨x1, hx2, h0⟩ := aV h0
  refine dU (rZ x0 _ hx2) hO ?_
  intro H hO
  refine bA ?_
  refine bT [] [(5, (aC x1))] ?_
  refine aN ?_
  refine aU aD 3 ?_
  refine bK 1 ?_
  obtain ⟨x4, hx5, h0⟩ := aV h0
  refine dU (rZ y1 _ hx5) hO ?_
  intro H hO
  refine bA ?_
  refine bT [] [(6, (aC x4))] ?_
  refine aN ?_
  refine aW aD 1 [5] [(11, (aC x1))] ?_
  refine bO h0 (fun h0 => ?_) (fun h0 => ?_)
  · refine aN ?_
    refine cH aD 1 [(12, (aC x4))] ?_
    refine bO h0 (fun h0 => ?_) (fun h0 => ?_)
    · refine cH aD 1 [(4, (eI (0 : Int)))] ?_
      refine bI ?_
      obtain rfl := oI h0
      exact aG (aT (aT (Q_r hO)))
    refine bQ ?_
    refine bB [] ?_
    refine cH aD 1 [(4, (eI (-1 : Int)))] ?_
    refine bI ?_
    obtain rfl := oI h0
    exact aG (aT (Q_r hO))
  refine bQ ?_
  refine bB [(0, (eI x0)), (1, (eI y1)), (6, (aC x4))] ?_
  refine aN ?_
  refine aW aD 1 [6] [(13, (aC x4))] ?_
  refine bO h0 (fun h0 => ?_) (fun h0 => ?_)
  · refine cH aD 1 [(4, (eI (1 : Int)))] ?_
    refine bI ?_
    obtain rfl := oI h0
    exact aG (aT (Q_r hO))
  refine bQ ?_
  refine bB [(0, (eI x0)), (1, (eI y1))] ?_
  refine aN ?_
  refine aW aD 3 [] [(16, (aC (decide (x0 < y1))))] ?_
  refine bO h0 (fun h0 => ?_) (fun h0 => ?_)
  · refine cH aD 1 [(4, (eI (-1 : Int)))] ?_
    refine bI ?_
    obtain rfl := oI h0
    exact aG (aT (Q_r hO))
  refine bQ ?_
  refine bB [(0, (eI x0)), (1, (eI y1))] ?_
  refine aN ?_
  refine cH aD 3 [(19, (aC (decide (y1 < x0))))] ?_
  refine bO h0 (fun h0 => ?_) (fun h0 => ?_)
  · refine cH aD 1 [(4, (eI (1 : Int)))] ?_
    refine bI ?_
    obtain rfl := oI h0
    exact aG (aT (Q_r hO))
  refine bQ ?_
  refine bB [] ?_
  refine cH aD 1 [(4, (eI (0 : Int)))] ?_
  refine bI ?_
  obtain rfl := oI h0
  exact aG (Q_r hO)

theorem sL (x0 : Int) (r : Bool) (h0 : kI x0 = some r) : dG Try.prog 110 [(eI x0)] (aC r) := by
  intro H0
  refine dF Try.func110 ?_
  have hO := aK.start H0
  unfold kI at h0
  refine aW aD 1 [] [] ?_
  refine cH aD 4 [(2, (aC (!decide (x0 = x0))))] ?_
  refine bI ?_
  obtain rfl := oI h0
  exact aG (Q_r hO)

theorem xU (x0 : Int) (y1 : Int) (r : Int) (h0 : fT x0 y1 = some r) : dG Try.prog 107 [(eI x0), (eI y1)] (eI r) := by
  intro H0
  refine dF Try.func107 ?_
  have hO := aK.start H0
  unfold fT at h0
  refine aW aD 1 [] [] ?_
  refine aN ?_
  refine aU aD 3 ?_
  refine bK 1 ?_
  obtain ⟨x1, hx2, h0⟩ := aV h0
  refine dU (sL x0 _ hx2) hO ?_
  intro H hO
  refine bA ?_
  refine bT [] [(5, (aC x1))] ?_
  refine aN ?_
  refine aU aD 3 ?_
  refine bK 1 ?_
  obtain ⟨x4, hx5, h0⟩ := aV h0
  refine dU (sL y1 _ hx5) hO ?_
  intro H hO
  refine bA ?_
  refine bT [] [(6, (aC x4))] ?_
  refine aN ?_
  refine aW aD 1 [5] [(11, (aC x1))] ?_
  refine bO h0 (fun h0 => ?_) (fun h0 => ?_)
  · refine aN ?_
    refine cH aD 1 [(12, (aC x4))] ?_
    refine bO h0 (fun h0 => ?_) (fun h0 => ?_)
    · refine cH aD 1 [(4, (eI (0 : Int)))] ?_
      refine bI ?_
      obtain rfl := oI h0
      exact aG (aT (aT (Q_r hO)))
    refine bQ ?_
    refine bB [] ?_
    refine cH aD 1 [(4, (eI (-1 : Int)))] ?_
    refine bI ?_
    obtain rfl := oI h0
    exact aG (aT (Q_r hO))
  refine bQ ?_
  refine bB [(0, (eI x0)), (1, (eI y1)), (6, (aC x4))] ?_
  refine aN ?_
  refine aW aD 1 [6] [(13, (aC x4))] ?_
  refine bO h0 (fun h0 => ?_) (fun h0 => ?_)
  · refine cH aD 1 [(4, (eI (1 : Int)))] ?_
    refine bI ?_
    obtain rfl := oI h0
    exact aG (aT (Q_r hO))
  refine bQ ?_
  refine bB [(0, (eI x0)), (1, (eI y1))] ?_
  refine aN ?_
  refine aW aD 3 [] [(16, (aC (decide (x0 < y1))))] ?_
  refine bO h0 (fun h0 => ?_) (fun h0 => ?_)
  · refine cH aD 1 [(4, (eI (-1 : Int)))] ?_
    refine bI ?_
    obtain rfl := oI h0
    exact aG (aT (Q_r hO))
  refine bQ ?_
  refine bB [(0, (eI x0)), (1, (eI y1))] ?_
  refine aN ?_
  refine cH aD 3 [(19, (aC (decide (y1 < x0))))] ?_
  refine bO h0 (fun h0 => ?_) (fun h0 => ?_)
  · refine cH aD 1 [(4, (eI (1 : Int)))] ?_
    refine bI ?_
    obtain rfl := oI h0
    exact aG (aT (Q_r hO))
  refine bQ ?_
  refine bB [] ?_
  refine cH aD 1 [(4, (eI (0 : Int)))] ?_
  refine bI ?_
  obtain rfl := oI h0
  exact aG (Q_r hO)

theorem uY (a0 : ByteArray) (b1 : ByteArray) (r : Int) (h0 : jK a0 b1 = some r) : dG Try.prog 111 [(wT a0), (wT b1)] (eI r) := by
  intro H0
  refine dF Try.func111 ?_
  have hO := aK.start H0
  unfold jK at h0
  refine aW aD 1 [] [] ?_
  refine aN ?_
  refine aU aD 4 ?_
  refine bK 2 ?_
  refine aBQ 112 [(wT a0), (wT b1)] (eI (KM a0 b1)) (by kernel_rfl) (by kernel_rfl) (ZU Try.func112 (by kernel_rfl) (by kernel_rfl) (by kernel_rfl) (by kernel_rfl) a0 b1) hO ?_
  intro H hO
  refine bA ?_
  refine bB [(4, (eI (KM a0 b1)))] ?_
  refine bI ?_
  obtain rfl := oI h0
  exact aG (Q_r hO)

theorem FL (a0 : ByteArray) (b1 : ByteArray) (r : Int) (h0 : mE a0 b1 = some r) : dG Try.prog 108 [(wT a0), (wT b1)] (eI r) := by
  intro H0
  refine dF Try.func108 ?_
  have hO := aK.start H0
  unfold mE at h0
  refine aW aD 1 [] [] ?_
  refine aN ?_
  refine aU aD 4 ?_
  refine bK 2 ?_
  obtain ⟨x1, hx2, h0⟩ := aV h0
  refine dU (uY a0 b1 _ hx2) hO ?_
  intro H hO
  refine bA ?_
  refine bB [(4, (eI x1))] ?_
  refine bI ?_
  obtain rfl := oI h0
  exact aG (Q_r hO)

theorem IE (a0 : aE) (b1 : aE) (r : Int) (h0 : oV a0 b1 = some r) : dG Try.prog 99 [(aI a0), (aI b1)] (eI r) := by
  intro H0
  refine dF Try.func99 ?_
  have hO := aK.start H0
  unfold oV at h0
  refine aN ?_
  refine aU aD 3 ?_
  refine gK 3 (aI a0) (by kernel_rfl) (by kernel_rfl) ?_
  refine gK 3 (aI b1) (by kernel_rfl) (by kernel_rfl) ?_
  refine bA ?_
  refine bB [(2, (.rp (aI a0))), (3, (.rp (aI b1)))] ?_
  refine aN ?_
  refine aU aD 7 ?_
  refine bK 1 ?_
  obtain ⟨⟨x1_0, x1_1⟩, hx2, h0⟩ := aV h0
  refine dU (wA a0 _ hx2) hO ?_
  intro H hO
  rcases x1_0 with _ | y4 | y5
  · replace h0 : ((lK b1).bind fun (x6_0, x6_1) => match x6_0 with | .none_ => (cond ((!x1_1) || (!x6_1)) (some (0 : Int)) (none)) | .k_number y9 => (cond ((!x1_1) || (!x6_1)) (some (0 : Int)) (some (1 : Int))) | .k_words y10 => (cond ((!x1_1) || (!x6_1)) (some (0 : Int)) (none))) = some r := h0
    refine bA ?_
    refine bT [2] [(5, (bC bG.none_)), (6, (aC x1_1))] ?_
    refine aN ?_
    refine aU aD 7 ?_
    refine bK 1 ?_
    obtain ⟨⟨x6_0, x6_1⟩, hx7, h0⟩ := aV h0
    refine dU (wA b1 _ hx7) hO ?_
    intro H hO
    rcases x6_0 with _ | y9 | y10
    · replace h0 : (cond ((!x1_1) || (!x6_1)) (some (0 : Int)) (none)) = some r := h0
      refine bA ?_
      refine bT [3] [(7, (bC bG.none_)), (8, (aC x6_1))] ?_
      refine aN ?_
      refine aW aD 6 [6, 8] [(28, (aC ((!x1_1) || (!x6_1))))] ?_
      refine bO h0 (fun h0 => ?_) (fun h0 => ?_)
      · refine cH aD 1 [(4, (eI (0 : Int)))] ?_
        refine bI ?_
        obtain rfl := oI h0
        exact aG (aT (Q_r hO))
      refine bQ ?_
      refine bB [(5, (bC bG.none_)), (7, (bC bG.none_))] ?_
      refine aW aD 7 [] [(9, (eI 0)), (10, (aC false))] ?_
      refine aW aD 7 [] [(11, (eI 0)), (12, (aC false))] ?_
      refine aN ?_
      refine cB 0 ?_
      refine aW aD 5 [] [(39, (aC false))] ?_
      refine mA (false) (fun hc12 => ?_) (fun hc12 => ?_)
      · cases hc12
      · refine aW aD 2 [9, 10, 11, 39] [(47, (aC false))] ?_
        refine mA (false) (fun hc13 => ?_) (fun hc13 => ?_)
        · cases hc13
        · refine cH aD 2 [(5, (bC bG.none_)), (7, (bC bG.none_)), (49, (aC false))] ?_
          refine mA (false) (fun hc14 => ?_) (fun hc14 => ?_)
          · cases hc14
          · refine bQ ?_
            refine eX [(5, (bC bG.none_)), (7, (bC bG.none_))] ?_
            refine aG (aY (aH (?_)))
            refine aN ?_
            refine fX (gC []) aD 6 ?_
            cases h0
    · replace h0 : (cond ((!x1_1) || (!x6_1)) (some (0 : Int)) (some (1 : Int))) = some r := h0
      refine bA ?_
      refine bT [3] [(7, (bC (bG.k_number y9))), (8, (aC x6_1))] ?_
      refine aN ?_
      refine aW aD 6 [6, 8] [(28, (aC ((!x1_1) || (!x6_1))))] ?_
      refine bO h0 (fun h0 => ?_) (fun h0 => ?_)
      · refine cH aD 1 [(4, (eI (0 : Int)))] ?_
        refine bI ?_
        obtain rfl := oI h0
        exact aG (aT (Q_r hO))
      refine bQ ?_
      refine bB [(5, (bC bG.none_)), (7, (bC (bG.k_number y9)))] ?_
      refine aW aD 7 [] [(9, (eI 0)), (10, (aC false))] ?_
      refine aW aD 7 [] [(11, (eI y9)), (12, (aC true))] ?_
      refine aN ?_
      refine cB 0 ?_
      refine aW aD 5 [] [(39, (aC false))] ?_
      refine mA (false) (fun hc16 => ?_) (fun hc16 => ?_)
      · cases hc16
      · refine aW aD 2 [9, 10, 11, 39] [(47, (aC false))] ?_
        refine mA (false) (fun hc17 => ?_) (fun hc17 => ?_)
        · cases hc17
        · refine cH aD 2 [(5, (bC bG.none_)), (7, (bC (bG.k_number y9))), (49, (aC true))] ?_
          refine mA (true) (fun hc18 => ?_) (fun hc18 => ?_)
          · refine cH aD 1 [(4, (eI (1 : Int)))] ?_
            refine bI ?_
            obtain rfl := oI h0
            exact aG (bF (aT (Q_r hO)))
          · cases hc18
    · replace h0 : (cond ((!x1_1) || (!x6_1)) (some (0 : Int)) (none)) = some r := h0
      refine bA ?_
      refine bT [3] [(7, (bC (bG.k_words y10))), (8, (aC x6_1))] ?_
      refine aN ?_
      refine aW aD 6 [6, 8] [(28, (aC ((!x1_1) || (!x6_1))))] ?_
      refine bO h0 (fun h0 => ?_) (fun h0 => ?_)
      · refine cH aD 1 [(4, (eI (0 : Int)))] ?_
        refine bI ?_
        obtain rfl := oI h0
        exact aG (aT (Q_r hO))
      refine bQ ?_
      refine bB [(5, (bC bG.none_)), (7, (bC (bG.k_words y10)))] ?_
      refine aW aD 7 [] [(9, (eI 0)), (10, (aC false))] ?_
      refine aW aD 7 [] [(11, (eI 0)), (12, (aC false))] ?_
      refine aN ?_
      refine cB 0 ?_
      refine aW aD 5 [] [(39, (aC false))] ?_
      refine mA (false) (fun hc20 => ?_) (fun hc20 => ?_)
      · cases hc20
      · refine aW aD 2 [9, 10, 11, 39] [(47, (aC false))] ?_
        refine mA (false) (fun hc21 => ?_) (fun hc21 => ?_)
        · cases hc21
        · refine cH aD 2 [(5, (bC bG.none_)), (7, (bC (bG.k_words y10))), (49, (aC false))] ?_
          refine mA (false) (fun hc22 => ?_) (fun hc22 => ?_)
          · cases hc22
          · refine bQ ?_
            refine eX [(5, (bC bG.none_)), (7, (bC (bG.k_words y10)))] ?_
            refine aG (aY (aH (?_)))
            refine aN ?_
            refine fX (gC []) aD 6 ?_
            cases h0
  · replace h0 : ((lK b1).bind fun (x23_0, x23_1) => match x23_0 with | .none_ => (cond ((!x1_1) || (!x23_1)) (some (0 : Int)) (some (-1 : Int))) | .k_number y26 => (cond ((!x1_1) || (!x23_1)) (some (0 : Int)) ((fT y4 y26).bind fun x33 => some x33)) | .k_words y27 => (cond ((!x1_1) || (!x23_1)) (some (0 : Int)) (some (-1 : Int)))) = some r := h0
    refine bA ?_
    refine bT [2] [(5, (bC (bG.k_number y4))), (6, (aC x1_1))] ?_
    refine aN ?_
    refine aU aD 7 ?_
    refine bK 1 ?_
    obtain ⟨⟨x23_0, x23_1⟩, hx24, h0⟩ := aV h0
    refine dU (wA b1 _ hx24) hO ?_
    intro H hO
    rcases x23_0 with _ | y26 | y27
    · replace h0 : (cond ((!x1_1) || (!x23_1)) (some (0 : Int)) (some (-1 : Int))) = some r := h0
      refine bA ?_
      refine bT [3] [(7, (bC bG.none_)), (8, (aC x23_1))] ?_
      refine aN ?_
      refine aW aD 6 [6, 8] [(28, (aC ((!x1_1) || (!x23_1))))] ?_
      refine bO h0 (fun h0 => ?_) (fun h0 => ?_)
      · refine cH aD 1 [(4, (eI (0 : Int)))] ?_
        refine bI ?_
        obtain rfl := oI h0
        exact aG (aT (Q_r hO))
      refine bQ ?_
      refine bB [(5, (bC (bG.k_number y4))), (7, (bC bG.none_))] ?_
      refine aW aD 7 [] [(9, (eI y4)), (10, (aC true))] ?_
      refine aW aD 7 [] [(11, (eI 0)), (12, (aC false))] ?_
      refine aN ?_
      refine cB 0 ?_
      refine aW aD 5 [] [(39, (aC false))] ?_
      refine mA (false) (fun hc29 => ?_) (fun hc29 => ?_)
      · cases hc29
      · refine aW aD 2 [9, 10, 11, 39] [(47, (aC true))] ?_
        refine mA (true) (fun hc30 => ?_) (fun hc30 => ?_)
        · refine cH aD 1 [(4, (eI (-1 : Int)))] ?_
          refine bI ?_
          obtain rfl := oI h0
          exact aG (bF (aT (Q_r hO)))
        · cases hc30
    · replace h0 : (cond ((!x1_1) || (!x23_1)) (some (0 : Int)) ((fT y4 y26).bind fun x33 => some x33)) = some r := h0
      refine bA ?_
      refine bT [3] [(7, (bC (bG.k_number y26))), (8, (aC x23_1))] ?_
      refine aN ?_
      refine aW aD 6 [6, 8] [(28, (aC ((!x1_1) || (!x23_1))))] ?_
      refine bO h0 (fun h0 => ?_) (fun h0 => ?_)
      · refine cH aD 1 [(4, (eI (0 : Int)))] ?_
        refine bI ?_
        obtain rfl := oI h0
        exact aG (aT (Q_r hO))
      refine bQ ?_
      refine bB [(5, (bC (bG.k_number y4))), (7, (bC (bG.k_number y26)))] ?_
      refine aW aD 7 [] [(9, (eI y4)), (10, (aC true))] ?_
      refine aW aD 7 [] [(11, (eI y26)), (12, (aC true))] ?_
      refine aN ?_
      refine cB 0 ?_
      refine aW aD 5 [] [(39, (aC true))] ?_
      refine mA (true) (fun hc32 => ?_) (fun hc32 => ?_)
      · refine aN ?_
        refine aU aD 4 ?_
        refine bK 2 ?_
        obtain ⟨x33, hx34, h0⟩ := aV h0
        refine dU (xU y4 y26 _ hx34) hO ?_
        intro H hO
        refine bA ?_
        refine bB [(4, (eI x33))] ?_
        refine bI ?_
        obtain rfl := oI h0
        exact aG (bF (aT (Q_r hO)))
      · cases hc32
    · replace h0 : (cond ((!x1_1) || (!x23_1)) (some (0 : Int)) (some (-1 : Int))) = some r := h0
      refine bA ?_
      refine bT [3] [(7, (bC (bG.k_words y27))), (8, (aC x23_1))] ?_
      refine aN ?_
      refine aW aD 6 [6, 8] [(28, (aC ((!x1_1) || (!x23_1))))] ?_
      refine bO h0 (fun h0 => ?_) (fun h0 => ?_)
      · refine cH aD 1 [(4, (eI (0 : Int)))] ?_
        refine bI ?_
        obtain rfl := oI h0
        exact aG (aT (Q_r hO))
      refine bQ ?_
      refine bB [(5, (bC (bG.k_number y4))), (7, (bC (bG.k_words y27)))] ?_
      refine aW aD 7 [] [(9, (eI y4)), (10, (aC true))] ?_
      refine aW aD 7 [] [(11, (eI 0)), (12, (aC false))] ?_
      refine aN ?_
      refine cB 0 ?_
      refine aW aD 5 [] [(39, (aC false))] ?_
      refine mA (false) (fun hc37 => ?_) (fun hc37 => ?_)
      · cases hc37
      · refine aW aD 2 [9, 10, 11, 39] [(47, (aC true))] ?_
        refine mA (true) (fun hc38 => ?_) (fun hc38 => ?_)
        · refine cH aD 1 [(4, (eI (-1 : Int)))] ?_
          refine bI ?_
          obtain rfl := oI h0
          exact aG (bF (aT (Q_r hO)))
        · cases hc38
  · replace h0 : ((lK b1).bind fun (x39_0, x39_1) => match x39_0 with | .none_ => (cond ((!x1_1) || (!x39_1)) (some (0 : Int)) (none)) | .k_number y42 => (cond ((!x1_1) || (!x39_1)) (some (0 : Int)) (some (1 : Int))) | .k_words y43 => (cond ((!x1_1) || (!x39_1)) (some (0 : Int)) ((mE y5 y43).bind fun x56 => some x56))) = some r := h0
    refine bA ?_
    refine bT [2] [(5, (bC (bG.k_words y5))), (6, (aC x1_1))] ?_
    refine aN ?_
    refine aU aD 7 ?_
    refine bK 1 ?_
    obtain ⟨⟨x39_0, x39_1⟩, hx40, h0⟩ := aV h0
    refine dU (wA b1 _ hx40) hO ?_
    intro H hO
    rcases x39_0 with _ | y42 | y43
    · replace h0 : (cond ((!x1_1) || (!x39_1)) (some (0 : Int)) (none)) = some r := h0
      refine bA ?_
      refine bT [3] [(7, (bC bG.none_)), (8, (aC x39_1))] ?_
      refine aN ?_
      refine aW aD 6 [6, 8] [(28, (aC ((!x1_1) || (!x39_1))))] ?_
      refine bO h0 (fun h0 => ?_) (fun h0 => ?_)
      · refine cH aD 1 [(4, (eI (0 : Int)))] ?_
        refine bI ?_
        obtain rfl := oI h0
        exact aG (aT (Q_r hO))
      refine bQ ?_
      refine bB [(5, (bC (bG.k_words y5))), (7, (bC bG.none_))] ?_
      refine aW aD 7 [] [(9, (eI 0)), (10, (aC false))] ?_
      refine aW aD 7 [] [(11, (eI 0)), (12, (aC false))] ?_
      refine aN ?_
      refine cB 0 ?_
      refine aW aD 5 [] [(39, (aC false))] ?_
      refine mA (false) (fun hc45 => ?_) (fun hc45 => ?_)
      · cases hc45
      · refine aW aD 2 [9, 10, 11, 39] [(47, (aC false))] ?_
        refine mA (false) (fun hc46 => ?_) (fun hc46 => ?_)
        · cases hc46
        · refine cH aD 2 [(5, (bC (bG.k_words y5))), (7, (bC bG.none_)), (49, (aC false))] ?_
          refine mA (false) (fun hc47 => ?_) (fun hc47 => ?_)
          · cases hc47
          · refine bQ ?_
            refine eX [(5, (bC (bG.k_words y5))), (7, (bC bG.none_))] ?_
            refine aG (aY (aH (?_)))
            refine aN ?_
            refine fX (gC []) aD 6 ?_
            cases h0
    · replace h0 : (cond ((!x1_1) || (!x39_1)) (some (0 : Int)) (some (1 : Int))) = some r := h0
      refine bA ?_
      refine bT [3] [(7, (bC (bG.k_number y42))), (8, (aC x39_1))] ?_
      refine aN ?_
      refine aW aD 6 [6, 8] [(28, (aC ((!x1_1) || (!x39_1))))] ?_
      refine bO h0 (fun h0 => ?_) (fun h0 => ?_)
      · refine cH aD 1 [(4, (eI (0 : Int)))] ?_
        refine bI ?_
        obtain rfl := oI h0
        exact aG (aT (Q_r hO))
      refine bQ ?_
      refine bB [(5, (bC (bG.k_words y5))), (7, (bC (bG.k_number y42)))] ?_
      refine aW aD 7 [] [(9, (eI 0)), (10, (aC false))] ?_
      refine aW aD 7 [] [(11, (eI y42)), (12, (aC true))] ?_
      refine aN ?_
      refine cB 0 ?_
      refine aW aD 5 [] [(39, (aC false))] ?_
      refine mA (false) (fun hc49 => ?_) (fun hc49 => ?_)
      · cases hc49
      · refine aW aD 2 [9, 10, 11, 39] [(47, (aC false))] ?_
        refine mA (false) (fun hc50 => ?_) (fun hc50 => ?_)
        · cases hc50
        · refine cH aD 2 [(5, (bC (bG.k_words y5))), (7, (bC (bG.k_number y42))), (49, (aC true))] ?_
          refine mA (true) (fun hc51 => ?_) (fun hc51 => ?_)
          · refine cH aD 1 [(4, (eI (1 : Int)))] ?_
            refine bI ?_
            obtain rfl := oI h0
            exact aG (bF (aT (Q_r hO)))
          · cases hc51
    · replace h0 : (cond ((!x1_1) || (!x39_1)) (some (0 : Int)) ((mE y5 y43).bind fun x56 => some x56)) = some r := h0
      refine bA ?_
      refine bT [3] [(7, (bC (bG.k_words y43))), (8, (aC x39_1))] ?_
      refine aN ?_
      refine aW aD 6 [6, 8] [(28, (aC ((!x1_1) || (!x39_1))))] ?_
      refine bO h0 (fun h0 => ?_) (fun h0 => ?_)
      · refine cH aD 1 [(4, (eI (0 : Int)))] ?_
        refine bI ?_
        obtain rfl := oI h0
        exact aG (aT (Q_r hO))
      refine bQ ?_
      refine bB [(5, (bC (bG.k_words y5))), (7, (bC (bG.k_words y43)))] ?_
      refine aW aD 7 [] [(9, (eI 0)), (10, (aC false))] ?_
      refine aW aD 7 [] [(11, (eI 0)), (12, (aC false))] ?_
      refine aN ?_
      refine cB 0 ?_
      refine aW aD 5 [] [(39, (aC false))] ?_
      refine mA (false) (fun hc53 => ?_) (fun hc53 => ?_)
      · cases hc53
      · refine aW aD 2 [9, 10, 11, 39] [(47, (aC false))] ?_
        refine mA (false) (fun hc54 => ?_) (fun hc54 => ?_)
        · cases hc54
        · refine cH aD 2 [(5, (bC (bG.k_words y5))), (7, (bC (bG.k_words y43))), (49, (aC false))] ?_
          refine mA (false) (fun hc55 => ?_) (fun hc55 => ?_)
          · cases hc55
          · refine bQ ?_
            refine eX [(5, (bC (bG.k_words y5))), (7, (bC (bG.k_words y43)))] ?_
            refine aG (aY (aH (?_)))
            refine aN ?_
            refine fX (gC []) aD 6 ?_
            refine lT 4 ?_
            obtain ⟨x56, hx57, h0⟩ := aV h0
            refine yY (FL y5 y43 _ hx57) hO ?_
            intro H hO
            refine jP ?_
            refine bB [(4, (eI x56))] ?_
            refine bI ?_
            obtain rfl := oI h0
            exact aG (Q_r hO)

theorem NH (a0 : (List aE)) (b1 : (List aE)) (r : Int) (h0 : rA a0 b1 = some r) : dG Try.prog 72 [(eL aI a0), (eL aI b1)] (eI r) := by
  intro H0
  refine dF Try.func72 ?_
  have hO := aK.start H0
  unfold rA at h0
  refine aN ?_
  refine aU aD 2 ?_
  refine gK 1 (eL aI b1) (by kernel_rfl) (by kernel_rfl) ?_
  refine bA ?_
  refine bT [1] [(3, (.rp (eL aI b1)))] ?_
  refine aN ?_
  refine aN ?_
  refine aU aD 8 ?_
  refine bK 1 ?_
  obtain ⟨x1, hx2, h0⟩ := aV h0
  refine dU (EB a0 _ hx2) hO ?_
  intro H hO
  refine bK 5 ?_
  obtain ⟨x4, hx5, h0⟩ := aV h0
  refine mB [(10, false)] 71 [(eL aI b1)] (aC x4) (!(!x1)) (by kernel_rfl) (by kernel_rfl) (by kernel_rfl) (fun hb6 => (EB b1 _ (iW hx5 hb6))) hO ?_
  intro H hO
  refine bA ?_
  refine bT [] [(14, (aC ((!x1) || (!x4))))] ?_
  refine bO h0 (fun h0 => ?_) (fun h0 => ?_)
  · refine cH aD 1 [(4, (eI (0 : Int)))] ?_
    refine bI ?_
    obtain rfl := oI h0
    exact aG (aT (Q_r hO))
  refine bQ ?_
  refine bB [(0, (eL aI a0)), (3, (.rp (eL aI b1)))] ?_
  refine aW aD 6 [] [(5, (eI (if (lN b1) < (lN a0) then (lN b1) else (lN a0))))] ?_
  refine aN ?_
  refine fX (gC []) aD 7 ?_
  obtain ⟨c8, h0⟩ := aZ h0
  refine cD 4 [0 ≤ (if (lN b1) < (lN a0) then (lN b1) else (lN a0)) ∧ (if (lN b1) < (lN a0) then (lN b1) else (lN a0)) ≤ (lN a0)] ⟨c8, trivial⟩ ?_
  obtain ⟨x9, hx10, h0⟩ := aV h0
  refine aBL (L' := fun lo11 => [(lo11, 1, [(eI x9.1)])]) 1 [(eI x9.1)] 96 [(.rp (eL aI b1))] (fun lo11 => (.fn (.func 97) [] [(.lp lo11 0 0), (.rp (eL aI x9.2))])) (by kernel_rfl) (by kernel_rfl) (JJ b1 _ hx10) hO (fun _ => by kernel_rfl) ?_
  intro lo11 H hO
  obtain ⟨x12, hx13, h0⟩ := aV h0
  refine aBm (fun st G' => G' = up [(lo11, 1, [(eI st)])] ++ []) [(lo11, 1, [(eI x12.1)])] x9.1 x12.1 95 [(.sl false (Int.toNat (if (lN b1) < (lN a0) then (lN b1) else (lN a0))) (fun i => aI (List.getD a0 i default))), (.fn (.func 97) [] [(.lp lo11 0 0), (.rp (eL aI x9.2))])] (eI x12.2) (by kernel_rfl) (by kernel_rfl) (uJ.sub (as0' := [(eL aI (List.take (Int.toNat (if (lN b1) < (lN a0) then (lN b1) else (lN a0))) a0)), (.fn (.func 97) [] [(.lp lo11 0 0), (.rp (eL aI x9.2))])]) (rW _ (List.take (Int.toNat (if (lN b1) < (lN a0) then (lN b1) else (lN a0))) a0) (.fn (.func 97) [] [(.lp lo11 0 0), (.rp (eL aI x9.2))]) (fun st y0 => (jT y0 st x9.2).bind fun o => some (o.2, o.1)) (fun st y0 st2 rr hr => (FK y0 lo11 st x9.2 _ (aCw hr)).toV (ys := []) (zs := [(aI y0)]) (cs := [(.lp lo11 0 0), (.rp (eL aI x9.2))]) (fun Gx hG => ⟨up [], up [] ++ [], hG, rfl⟩)) _ _ hx13) ⟨aBO (Int.toNat_le.2 (And.right c8)), aO.refl _, trivial⟩) hO rfl (fun _ h => h) ?_
  intro H hO
  refine jP ?_
  replace hO := hO.pick (L' := []) [] (by decide) (by kernel_rfl)
  refine bT [5] [(6, (eI x12.2))] ?_
  refine aN ?_
  refine aW aD 2 [] [(27, (aC (decide (x12.2 < (0 : Int)))))] ?_
  refine bO h0 (fun h0 => ?_) (fun h0 => ?_)
  · refine aN ?_
    refine aU aD 6 ?_
    refine bK 4 ?_
    obtain ⟨x15, hx16, h0⟩ := aV h0
    refine dU (FN (lN a0) (lN b1) _ hx16) hO ?_
    intro H hO
    refine bA ?_
    refine bB [(4, (eI x15))] ?_
    refine bI ?_
    obtain rfl := oI h0
    exact aG (aT (Q_r hO))
  refine bQ ?_
  refine bB [(0, (eL aI a0)), (3, (.rp (eL aI b1))), (6, (eI x12.2))] ?_
  refine aN ?_
  refine fX (gC [36, 37, 40, 41]) aD 10 ?_
  obtain ⟨c18, h0⟩ := aZ h0
  obtain ⟨c19, h0⟩ := aZ h0
  refine cD 8 [0 ≤ x12.2 ∧ x12.2 < (lN a0), 0 ≤ x12.2 ∧ x12.2 < (lN b1)] ⟨c18, c19, trivial⟩ ?_
  obtain ⟨x20, hx21, h0⟩ := aV h0
  refine yY (IE (gD a0 x12.2) (gD b1 x12.2) _ hx21) hO ?_
  intro H hO
  refine jP ?_
  refine bB [(4, (eI x20))] ?_
  refine bI ?_
  obtain rfl := oI h0
  exact aG (Q_r hO)

theorem GC (l0 : (List aM)) (holds1_f : Nat) (holds1_a holds1_c : List V) (sN : (List aB) → Option Bool) (holds1_h : ∀ a0 r, sN a0 = some r → dG Try.prog holds1_f (holds1_a ++ [(eL aF a0)] ++ holds1_c) (aC r)) (r : Bool) (h0 : rQ l0 sN = some r) : dG Try.prog 49 [(eL aL l0), (.fn (.func holds1_f) holds1_a holds1_c)] (aC r) := by
  intro H0
  refine yP aD Try.func49 (by kernel_rfl) (by kernel_rfl) (by kernel_rfl) ?_
  have hO := aK.start H0
  unfold rQ at h0
  refine aN ?_
  refine aU aD 2 ?_
  refine gK 1 (.fn (.func holds1_f) holds1_a holds1_c) (by kernel_rfl) (by kernel_rfl) ?_
  refine jN 1 (aC false) (by kernel_rfl) (by kernel_rfl) hO ?_
  intro lo1 H hO
  refine dJ ?_
  refine bT [1] [(3, (.rp (.fn (.func holds1_f) holds1_a holds1_c))), (4, (.lp lo1 0 0))] ?_
  refine aN ?_
  refine aW aD 3 [] [(11, (aC (decide ((4096 : Int) < (lN l0)))))] ?_
  refine bO h0 (fun h0 => ?_) (fun h0 => ?_)
  · refine aN ?_
    refine aU aD 1 ?_
    refine fS 0 lo1 1 0 (aC false) (aC false) [(aC false)] [(lo1, 1, [(aC false)])] hO rfl (by kernel_rfl) ?_
    intro H hO
    refine dJ ?_
    refine bB [(4, (.lp lo1 0 0))] ?_
    refine bI ?_
    obtain rfl := oI h0
    exact aG (aT (QM0 (.inr rfl) (rs := [.cell 4 4]) (xs := [(aC false)]) (x := (aC false)) (by kernel_rfl) (fN (lo := lo1) (k := 1) (y := (aC false)) (x := (aC false)) 0 hO (by kernel_rfl) (by kernel_rfl) (by kernel_rfl) (by kernel_rfl) lO) (by kernel_rfl) ⟨rfl, hO.out⟩))
  refine bQ ?_
  refine bB [(0, (eL aL l0)), (3, (.rp (.fn (.func holds1_f) holds1_a holds1_c))), (4, (.lp lo1 0 0))] ?_
  refine aN ?_
  refine aU aD 1 ?_
  refine wW 1 (.sl true 0 (fun _ => .bad)) (eL aI ([])) (by kernel_rfl) (by kernel_rfl) (by kernel_rfl) (kP) (by kernel_rfl) (by kernel_rfl) hO ?_
  intro lo3 H hO
  refine dJ ?_
  refine bT [] [(5, (.lp lo3 0 0))] ?_
  refine aN ?_
  refine aU aD 2 ?_
  refine jN 1 (aC false) (by kernel_rfl) (by kernel_rfl) hO ?_
  intro lo4 H hO
  refine fS 2 lo4 1 0 (aC false) (aC false) [(aC false)] [(lo1, 1, [(aC false)]), (lo3, 1, [(eL aI ([]))]), (lo4, 1, [(aC false)])] hO rfl (by kernel_rfl) ?_
  intro H hO
  refine dJ ?_
  refine bT [] [(6, (.lp lo4 0 0))] ?_
  refine aN ?_
  refine aN ?_
  refine aU aD 2 ?_
  refine bK 1 ?_
  obtain ⟨x5, hx6, h0⟩ := aV h0
  refine dU (AW l0 _ hx6) hO ?_
  intro H hO
  refine dJ ?_
  refine bT [0] [(13, (.fn (.func 74) [] [(.rp (eL aL x5))]))] ?_
  refine cB 0 ?_
  refine fH [(3, (.rp (.fn (.func holds1_f) holds1_a holds1_c))), (4, (.lp lo1 0 0)), (5, (.lp lo3 0 0)), (6, (.lp lo4 0 0)), (13, (.fn (.func 74) [] [(.rp (eL aL x5))]))] ?_
  refine fI (fun T H => ∃ t4 : Bool, ∃ nU : (List aE), ∃ kB : Bool, ∃ kR : (List aM), Has T [(3, (.rp (.fn (.func holds1_f) holds1_a holds1_c))), (4, (.lp lo1 0 0)), (5, (.lp lo3 0 0)), (6, (.lp lo4 0 0)), (13, (.fn (.func 74) [] [(.rp (eL aL kR))]))] ∧ aK ⟨H0, [], []⟩ H [(lo1, 1, [(aC t4)]), (lo3, 1, [(eL aI nU)]), (lo4, 1, [(aC kB)])] ∧ vY sN t4 nU kB kR = some r) ?_ ⟨false, [], false, x5, .eq (by kernel_rfl), hO, h0⟩
  clear hO h0
  rintro T H ⟨t4, nU, kB, kR, hT, hO, h0⟩
  refine bH (l := [(3, (.rp (.fn (.func holds1_f) holds1_a holds1_c))), (4, (.lp lo1 0 0)), (5, (.lp lo3 0 0)), (6, (.lp lo4 0 0)), (13, (.fn (.func 74) [] [(.rp (eL aL kR))]))]) hT ?_
  clear hT
  unfold vY at h0
  obtain ⟨o0, hl0, h0⟩ := aV h0
  refine wK (fid := 74) (ys := []) (cs := [(.rp (eL aL kR))]) #[14, 15] (fun (A : qX) (b lL : Nat) (st : (Bool × (List aE) × Bool) ⊕ (Bool × (List aE) × Bool)) (G' : Gs) => Sum.elim (fun (s : Bool × (List aE) × Bool) => G' = (lL, .raw (fM b A .ready none)) :: (up [(lo1, 1, [(aC s.1)]), (lo3, 1, [(eL aI s.2.1)]), (lo4, 1, [(aC s.2.2)])] ++ [])) (fun (s : Bool × (List aE) × Bool) => G' = (lL, .raw (fM b A .done (some .ret))) :: (up [(lo1, 1, [(aC s.1)]), (lo3, 1, [(eL aI s.2.1)]), (lo4, 1, [(aC s.2.2)])] ++ [])) st) (.inl (t4, nU, kB)) o0 (.tup []) (by kernel_rfl) (by kernel_rfl) (by kernel_rfl) hO (fun _ _ => rfl) ?_ ?_
  · intro b lL
    clear hO h0
    refine vE _ b (fun st t14 t15 => rnd (fun (s : Bool × (List aE) × Bool) => oE sN kR s.1 s.2.1 s.2.2 t14 t15) st) ?_ kR _ _ hl0
    intro st t14 t15 out1 rr hr
    obtain ⟨s, rfl, h1, rfl⟩ := GM hr
    clear hr
    intro Hr Gr hi hg
    obtain ⟨t4, nU, kB⟩ := s
    dsimp only [Sum.elim_inl] at hi
    obtain rfl := hi
    replace h1 : oE sN kR t4 nU kB t14 t15 = some out1 := h1
    unfold oE at h1
    obtain ⟨E1, hE, hO⟩ := pL hg
    refine pM (uV (hO.gm 0 _ rfl).2 (by kernel_rfl) (by kernel_rfl) ?_)
    refine fH [(3, (.rp (.fn (.func holds1_f) holds1_a holds1_c))), (4, (.lp lo1 0 0)), (5, (.lp lo3 0 0)), (6, (.lp lo4 0 0)), (13, (.fn (.func 74) [] [(.rp (eL aL kR))])), (14, (eL aI t14)), (15, (eL aF t15))] ?_
    refine aW aD 1 [13, 14] [(7, (eL aI t14))] ?_
    refine aU aD 1 ?_
    refine bA ?_
    refine eX [(3, (.rp (.fn (.func holds1_f) holds1_a holds1_c))), (4, (.lp lo1 0 0)), (5, (.lp lo3 0 0)), (6, (.lp lo4 0 0)), (7, (eL aI t14)), (8, (eL aF t15))] ?_
    refine aG (⟨rfl, rfl, (hO.gm 0 _ rfl).2, ?_⟩)
    intro o1 ho1
    replace hO := hO.mW o1
    refine cB 1 ?_
    refine aN ?_
    refine aN ?_
    refine aU aD 18 ?_
    refine bK 1 ?_
    obtain ⟨x7, hx8, h1⟩ := aV h1
    refine dU (EB t14 _ hx8) hO ?_
    intro H hO
    refine bK 4 ?_
    refine vB [(19, false)] 2 lo4 1 0 (aC kB) (aC kB) [(aC kB)] (by kernel_rfl) (by kernel_rfl) hO (by kernel_rfl) (!(!x7)) (by kernel_rfl) (fun hb10 => rfl) ?_
    refine bK 6 ?_
    refine vB [(21, true), (19, false)] 1 lo3 1 0 (eL aI nU) (eL aI nU) [(eL aI nU)] (by kernel_rfl) (by kernel_rfl) hO (by kernel_rfl) (kB && (!(!x7))) (by kernel_rfl) (fun hb11 => rfl) ?_
    refine bK 8 ?_
    obtain ⟨x12, hx13, h1⟩ := aV h1
    refine mB [(21, true), (19, false)] 72 [(eL aI nU), (eL aI t14)] (eI x12) (kB && (!(!x7))) (by kernel_rfl) (by kernel_rfl) (by kernel_rfl) (fun hb14 => (NH nU t14 _ (iW hx13 hb14))) hO ?_
    intro H hO
    refine bK 15 ?_
    obtain ⟨x15, hx16, h1⟩ := aV h1
    refine mB [(28, false)] holds1_f (holds1_a ++ [(eL aF t15)] ++ holds1_c) (aC x15) (!((!x7) || (kB && (decide ((0 : Int) ≤ x12))))) (by kernel_rfl) (by kernel_rfl) (by kernel_rfl) (fun hb17 => (holds1_h t15 _ (iW hx16 hb17))) hO ?_
    intro H hO
    refine bA ?_
    refine bT [3, 8] [(33, (aC (((!x7) || (kB && (decide ((0 : Int) ≤ x12)))) || (!x15))))] ?_
    refine bO h1 (fun h1 => ?_) (fun h1 => ?_)
    · refine aN ?_
      refine aU aD 1 ?_
      refine fS 0 lo1 1 0 (aC t4) (aC false) [(aC t4)] [(lo1, 1, [(aC false)]), (lo3, 1, [(eL aI nU)]), (lo4, 1, [(aC kB)])] hO rfl (by kernel_rfl) ?_
      intro H hO
      refine dJ ?_
      refine bT [7, 33] [] ?_
      refine bI ?_
      refine eX [(4, (.lp lo1 0 0)), (5, (.lp lo3 0 0)), (6, (.lp lo4 0 0))] ?_
      obtain rfl := oI h1
      exact aG (aT (bF (⟨(dD hO hE ho1 .dead).1, rfl, _, rfl, (dD hO hE ho1 _).2⟩)))
    refine bQ ?_
    refine bB [(4, (.lp lo1 0 0)), (5, (.lp lo3 0 0)), (6, (.lp lo4 0 0)), (7, (eL aI t14))] ?_
    refine aU aD 3 ?_
    refine bK 1 ?_
    refine fS 1 lo3 1 0 (eL aI nU) (eL aI t14) [(eL aI nU)] [(lo1, 1, [(aC t4)]), (lo3, 1, [(eL aI t14)]), (lo4, 1, [(aC kB)])] hO rfl (by kernel_rfl) ?_
    intro H hO
    refine fS 2 lo4 1 0 (aC kB) (aC true) [(aC kB)] [(lo1, 1, [(aC t4)]), (lo3, 1, [(eL aI t14)]), (lo4, 1, [(aC true)])] hO rfl (by kernel_rfl) ?_
    intro H hO
    refine dJ ?_
    refine eX [(4, (.lp lo1 0 0)), (5, (.lp lo3 0 0)), (6, (.lp lo4 0 0))] ?_
    obtain rfl := oI h1
    exact aG (aY (⟨(dD hO hE ho1 .dead).1, rfl, _, rfl, (dD hO hE ho1 _).2⟩))
  · intro b lD19 lL H' G' hi hO
    rcases o0 with s | s
    · dsimp only [Sum.elim_inl] at hi
      obtain rfl := hi
      replace h0 : (some true) = some r := h0
      obtain ⟨hlL, hO⟩ := lI hO
      refine ⟨_, _, hlL, (by intro e; cases e), ?_⟩
      refine eX [(4, (.lp lo1 0 0))] ?_
      replace hO := hO.pick (L' := [(lo1, 1, [(aC s.1)])]) [0] (by decide) (by kernel_rfl)
      refine aG (aY (aH (?_)))
      refine aN ?_
      refine aU aD 1 ?_
      refine fS 0 lo1 1 0 (aC s.1) (aC true) [(aC s.1)] [(lo1, 1, [(aC true)])] hO rfl (by kernel_rfl) ?_
      intro H hO
      refine dJ ?_
      refine bB [(4, (.lp lo1 0 0))] ?_
      refine bI ?_
      obtain rfl := oI h0
      have hD := (hO.gm 0 _ rfl).2
      replace hO := (hO.mW .dead).nS
      exact aG (QM1 (.inr rfl) hD (rs := [.cell 4 4]) (xs := [(aC true)]) (x := (aC true)) (by kernel_rfl) (fN (lo := lo1) (k := 1) (y := (aC true)) (x := (aC true)) 0 hO (by kernel_rfl) (by kernel_rfl) (by kernel_rfl) (by kernel_rfl) lO) (by kernel_rfl) ⟨rfl, hO.out⟩)
    · dsimp only [Sum.elim_inr] at hi
      obtain rfl := hi
      replace h0 : (some s.1) = some r := h0
      obtain ⟨hlL, hO⟩ := lI hO
      refine ⟨_, _, hlL, (by intro e; cases e), ?_⟩
      refine bI ?_
      replace hO := hO.pick (L' := [(lo1, 1, [(aC s.1)])]) [0] (by decide) (by kernel_rfl)
      obtain rfl := oI h0
      have hD := (hO.gm 0 _ rfl).2
      replace hO := (hO.mW .dead).nS
      exact aG (bF (aT (QM1 (.inr rfl) hD (rs := [.cell 4 4]) (xs := [(aC s.1)]) (x := (aC s.1)) (by kernel_rfl) (fN (lo := lo1) (k := 1) (y := (aC s.1)) (x := (aC s.1)) 0 hO (by kernel_rfl) (by kernel_rfl) (by kernel_rfl) (by kernel_rfl) lO) (by kernel_rfl) ⟨rfl, hO.out⟩)))

theorem RW (n0 : Int) (r : Bool) (h0 : xH n0 = some r) : dG Try.prog 73 [(eI n0)] (aC r) := by
  intro H0
  refine dF Try.func73 ?_
  have hO := aK.start H0
  unfold xH at h0
  refine aW aD 1 [] [] ?_
  refine cH aD 7 [(2, (aC ((decide (n0 ≤ (1048576 : Int))) && (decide ((-1048576 : Int) ≤ n0)))))] ?_
  refine bI ?_
  obtain rfl := oI h0
  exact aG (Q_r hO)

theorem tQ (f0 : (List aB)) (r : Bool) (h0 : lV f0 = some r) : dG Try.prog 51 [(eL aF f0)] (aC r) := by
  intro H0
  refine dF Try.func51 ?_
  have hO := aK.start H0
  unfold lV at h0
  refine aW aD 1 [] [] ?_
  refine aN ?_
  refine aW aD 3 [] [(8, (aC (decide ((1024 : Int) < (lN f0)))))] ?_
  refine bO h0 (fun h0 => ?_) (fun h0 => ?_)
  · refine cH aD 1 [(2, (aC false))] ?_
    refine bI ?_
    obtain rfl := oI h0
    exact aG (aT (Q_r hO))
  refine bQ ?_
  refine bB [(0, (eL aF f0))] ?_
  refine aW aD 1 [] [(3, (eI (-2 : Int)))] ?_
  refine gX (fun T H => Has T [] ∧ aK ⟨H0, [], []⟩ H [] ∧ uD  = some r) ?_ ?_
  · clear hO h0
    rintro T H ⟨hT, hO, h0⟩
    refine bH hT ?_
    clear hT
    unfold uD at h0
    refine cH aD 1 [(2, (aC true))] ?_
    refine bI ?_
    obtain rfl := oI h0
    exact aG (Q_r hO)
  refine aW aD 3 [0] [(9, (eL aF f0)), (10, (eI (lN f0))), (11, (eI (0 : Int)))] ?_
  refine cB 0 ?_
  refine fH [(3, (eI (-2 : Int))), (9, (eL aF f0)), (10, (eI (lN f0))), (11, (eI (0 : Int)))] ?_
  refine fI (fun T H => ∃ pO : Int, ∃ t9 : (List aB), ∃ t10 : Int, ∃ t11 : Int, Has T [(3, (eI pO)), (9, (eL aF t9)), (10, (eI t10)), (11, (eI t11))] ∧ aK ⟨H0, [], []⟩ H [] ∧ xE pO t9 t10 t11 = some r) ?_ ⟨(-2 : Int), f0, (lN f0), (0 : Int), .eq (by kernel_rfl), hO, h0⟩
  clear hO h0
  rintro T H ⟨pO, t9, t10, t11, hT, hO, h0⟩
  refine bH hT ?_
  clear hT
  unfold xE at h0
  obtain ⟨rr0, hl0, h0⟩ := aV h0
  refine dM (by kernel_rfl) (fun (s : Int × Int) T H => Has T [(3, (eI s.1)), (9, (eL aF t9)), (10, (eI t10)), (11, (eI s.2))] ∧ aK ⟨H0, [], []⟩ H []) hl0 ⟨.eq (by kernel_rfl), hO⟩ ?_
  clear hO
  rintro k0 s out1 T H ⟨hT, hO⟩ h1 ho0
  obtain ⟨pO, t11⟩ := s
  replace h1 : lU t9 t10 pO t11 = some out1 := h1
  try dsimp only at hT
  refine bH hT ?_
  clear hT
  unfold lU at h1
  refine aW aD 1 [] [(12, (aC (decide (t11 < t10))))] ?_
  refine aN ?_
  refine bO h1 (fun h1 => ?_) (fun h1 => ?_)
  · refine bQ ?_
    refine bB [(3, (eI pO)), (9, (eL aF t9)), (10, (eI t10)), (11, (eI t11))] ?_
    refine aN ?_
    refine cB 1 ?_
    refine aN ?_
    refine aU aD 4 ?_
    obtain ⟨c3, h1⟩ := aZ h1
    refine xX 2 [0 ≤ t11 ∧ t11 < (lN t9)] ⟨c3, trivial⟩ ?_
    refine jN 2 (aF (aB.mk 0 0)) (by kernel_rfl) (by kernel_rfl) hO ?_
    intro lo4 H hO
    refine fS 0 lo4 2 0 (aF (aB.mk 0 0)) (aF (gD t9 t11)) [(aF (aB.mk 0 0))] [(lo4, 2, [(aF (gD t9 t11))])] hO rfl (by kernel_rfl) ?_
    intro H hO
    refine dJ ?_
    refine bT [] [(5, (.lp lo4 0 0))] ?_
    refine aN ?_
    refine aN ?_
    refine aU aD 20 ?_
    refine bK 1 ?_
    refine lS 0 lo4 2 0 (aF (gD t9 t11)) (eI ((gD t9 t11).At)) [(aF (gD t9 t11))] hO rfl ?_
    refine bK 6 ?_
    refine vB [(19, false)] 0 lo4 2 0 (aF (gD t9 t11)) (eI ((gD t9 t11).At)) [(aF (gD t9 t11))] (by kernel_rfl) (by kernel_rfl) hO (by kernel_rfl) (!(decide (((gD t9 t11).At) ≤ pO))) (by kernel_rfl) (fun hb5 => rfl) ?_
    refine bK 11 ?_
    refine vB [(24, false)] 0 lo4 2 0 (aF (gD t9 t11)) (eI ((gD t9 t11).Net)) [(aF (gD t9 t11))] (by kernel_rfl) (by kernel_rfl) hO (by kernel_rfl) (!((decide (((gD t9 t11).At) ≤ pO)) || (decide ((1125899906842624 : Int) ≤ ((gD t9 t11).At))))) (by kernel_rfl) (fun hb6 => rfl) ?_
    refine bK 16 ?_
    refine vB [(29, false)] 0 lo4 2 0 (aF (gD t9 t11)) (eI ((gD t9 t11).Net)) [(aF (gD t9 t11))] (by kernel_rfl) (by kernel_rfl) hO (by kernel_rfl) (!(((decide (((gD t9 t11).At) ≤ pO)) || (decide ((1125899906842624 : Int) ≤ ((gD t9 t11).At)))) || (decide (((gD t9 t11).Net) = (0 : Int))))) (by kernel_rfl) (fun hb7 => rfl) ?_
    obtain ⟨x8, hx9, h1⟩ := aV h1
    refine mB [(29, false)] 73 [(eI ((gD t9 t11).Net))] (aC x8) (!(((decide (((gD t9 t11).At) ≤ pO)) || (decide ((1125899906842624 : Int) ≤ ((gD t9 t11).At)))) || (decide (((gD t9 t11).Net) = (0 : Int))))) (by kernel_rfl) (by kernel_rfl) (by kernel_rfl) (fun hb10 => (RW ((gD t9 t11).Net) _ (iW hx9 hb10))) hO ?_
    intro H hO
    refine bA ?_
    refine bT [3] [(34, (aC ((((decide (((gD t9 t11).At) ≤ pO)) || (decide ((1125899906842624 : Int) ≤ ((gD t9 t11).At)))) || (decide (((gD t9 t11).Net) = (0 : Int)))) || (!x8))))] ?_
    refine bO h1 (fun h1 => ?_) (fun h1 => ?_)
    · refine aN ?_
      refine aU aD 1 ?_
      refine bA ?_
      refine eX [(2, (aC false))] ?_
      replace hO := hO.pick (L' := []) [] (by decide) (by kernel_rfl)
      refine aG (aH (?_))
      refine bI ?_
      obtain rfl := oI h1
      obtain rfl : _ = rr0 := ho0
      replace h0 : some false = some r := h0
      obtain rfl := oI h0
      exact aG (aT (bF (aT (aT (bF (aT (Q_r hO)))))))
    refine bQ ?_
    refine bB [(5, (.lp lo4 0 0)), (9, (eL aF t9)), (10, (eI t10)), (11, (eI t11))] ?_
    refine aU aD 3 ?_
    refine bK 1 ?_
    refine lS 0 lo4 2 0 (aF (gD t9 t11)) (eI ((gD t9 t11).At)) [(aF (gD t9 t11))] hO rfl ?_
    refine bA ?_
    refine eX [(3, (eI ((gD t9 t11).At))), (9, (eL aF t9)), (10, (eI t10)), (11, (eI t11))] ?_
    replace hO := hO.pick (L' := []) [] (by decide) (by kernel_rfl)
    refine aG (aY (aH (?_)))
    refine aU aD 2 ?_
    refine bA ?_
    exact aG (aH (⟨rfl, _, (oI h1).symm, .eq (by kernel_rfl), hO⟩))
  refine iJ 0 ?_
  obtain rfl := oI h1
  obtain rfl : _ = rr0 := ho0
  replace h0 : uD  = some r := h0
  exact aG (aX (aX (bX (aH (⟨rfl, .eq (by kernel_rfl), hO, h0⟩)))))

theorem BU (l0 : (List aM)) (r : Bool) (h0 : qI l0 = some r) : dG Try.prog 31 [(eL aL l0)] (aC r) := by
  intro H0
  refine dF Try.func31 ?_
  have hO := aK.start H0
  unfold qI at h0
  refine aW aD 1 [] [] ?_
  refine aN ?_
  refine aU aD 3 ?_
  refine bK 1 ?_
  obtain ⟨x1, hx2, h0⟩ := aV h0
  refine dU (GC l0 51 [] [] (fun y0 => lV y0) (fun y0 r h => tQ y0 r h) _ hx2) hO ?_
  intro H hO
  refine bA ?_
  refine bB [(2, (aC x1))] ?_
  refine bI ?_
  obtain rfl := oI h0
  exact aG (Q_r hO)

theorem PB (f0 : (List aB)) (r : Int) (h0 : sX f0 = some r) : dG Try.prog 52 [(eL aF f0)] (eI r) := by
  intro H0
  refine dF Try.func52 ?_
  have hO := aK.start H0
  unfold sX at h0
  refine aW aD 1 [] [] ?_
  refine aN ?_
  refine aN ?_
  refine aU aD 8 ?_
  refine bK 1 ?_
  obtain ⟨x1, hx2, h0⟩ := aV h0
  refine dU (tQ f0 _ hx2) hO ?_
  intro H hO
  refine bA ?_
  refine bT [] [(14, (aC ((!x1) || (decide ((lN f0) = (0 : Int))))))] ?_
  refine bO h0 (fun h0 => ?_) (fun h0 => ?_)
  · refine cH aD 1 [(2, (eI (0 : Int)))] ?_
    refine bI ?_
    obtain rfl := oI h0
    exact aG (aT (Q_r hO))
  refine bQ ?_
  refine bB [(0, (eL aF f0))] ?_
  refine aW aD 2 [] [(3, (eI (0 : Int))), (4, (eI (0 : Int)))] ?_
  refine gX (fun T H => ∃ v3 : Int, ∃ iC : Int, Has T [(0, (eL aF f0)), (3, (eI v3)), (4, (eI iC))] ∧ aK ⟨H0, [], []⟩ H [] ∧ oP f0 v3 iC = some r) ?_ ?_
  · clear hO h0
    rintro T H ⟨v3, iC, hT, hO, h0⟩
    refine bH hT ?_
    clear hT
    unfold oP at h0
    refine gX (fun T H => ∃ iC : Int, Has T [(4, (eI iC))] ∧ aK ⟨H0, [], []⟩ H [] ∧ rL iC = some r) ?_ ?_
    · clear hO h0
      rintro T H ⟨iC, hT, hO, h0⟩
      refine bH hT ?_
      clear hT
      unfold rL at h0
      refine cH aD 2 [(2, (eI iC))] ?_
      refine bI ?_
      obtain rfl := oI h0
      exact aG (Q_r hO)
    refine aW aD 3 [0] [(24, (eL aF f0)), (25, (eI (lN f0))), (26, (eI (0 : Int)))] ?_
    refine cB 0 ?_
    refine fH [(3, (eI v3)), (4, (eI iC)), (24, (eL aF f0)), (25, (eI (lN f0))), (26, (eI (0 : Int)))] ?_
    refine fI (fun T H => ∃ v3 : Int, ∃ iC : Int, ∃ t24 : (List aB), ∃ t25 : Int, ∃ t26 : Int, Has T [(3, (eI v3)), (4, (eI iC)), (24, (eL aF t24)), (25, (eI t25)), (26, (eI t26))] ∧ aK ⟨H0, [], []⟩ H [] ∧ rB v3 iC t24 t25 t26 = some r) ?_ ⟨v3, iC, f0, (lN f0), (0 : Int), .eq (by kernel_rfl), hO, h0⟩
    clear hO h0
    rintro T H ⟨v3, iC, t24, t25, t26, hT, hO, h0⟩
    refine bH hT ?_
    clear hT
    unfold rB at h0
    obtain ⟨rr0, hl0, h0⟩ := aV h0
    refine dM (by kernel_rfl) (fun (s : Int × Int × Int) T H => Has T [(3, (eI s.1)), (4, (eI s.2.1)), (24, (eL aF t24)), (25, (eI t25)), (26, (eI s.2.2))] ∧ aK ⟨H0, [], []⟩ H []) hl0 ⟨.eq (by kernel_rfl), hO⟩ ?_
    clear hO
    rintro k0 s out1 T H ⟨hT, hO⟩ h1 ho0
    obtain ⟨v3, iC, t26⟩ := s
    replace h1 : mF t24 t25 v3 iC t26 = some out1 := h1
    try dsimp only at hT
    refine bH hT ?_
    clear hT
    unfold mF at h1
    refine aW aD 1 [] [(27, (aC (decide (t26 < t25))))] ?_
    refine aN ?_
    refine bO h1 (fun h1 => ?_) (fun h1 => ?_)
    · refine bQ ?_
      refine bB [(3, (eI v3)), (4, (eI iC)), (24, (eL aF t24)), (25, (eI t25)), (26, (eI t26))] ?_
      refine aN ?_
      refine cB 1 ?_
      refine aN ?_
      refine aU aD 4 ?_
      obtain ⟨c6, h1⟩ := aZ h1
      refine xX 2 [0 ≤ t26 ∧ t26 < (lN t24)] ⟨c6, trivial⟩ ?_
      refine jN 2 (aF (aB.mk 0 0)) (by kernel_rfl) (by kernel_rfl) hO ?_
      intro lo7 H hO
      refine fS 0 lo7 2 0 (aF (aB.mk 0 0)) (aF (gD t24 t26)) [(aF (aB.mk 0 0))] [(lo7, 2, [(aF (gD t24 t26))])] hO rfl (by kernel_rfl) ?_
      intro H hO
      refine dJ ?_
      refine bT [] [(6, (.lp lo7 0 0))] ?_
      refine aN ?_
      refine aU aD 5 ?_
      refine bK 2 ?_
      refine lS 0 lo7 2 0 (aF (gD t24 t26)) (eI ((gD t24 t26).Net)) [(aF (gD t24 t26))] hO rfl ?_
      refine bA ?_
      replace hO := hO.pick (L' := []) [] (by decide) (by kernel_rfl)
      refine bT [3, 6] [(3, (eI (wR (v3 + ((gD t24 t26).Net)))))] ?_
      refine aU aD 4 ?_
      refine bA ?_
      refine eX [(3, (eI (wR (v3 + ((gD t24 t26).Net))))), (4, (eI (if (wR (v3 + ((gD t24 t26).Net))) < iC then (wR (v3 + ((gD t24 t26).Net))) else iC))), (24, (eL aF t24)), (25, (eI t25)), (26, (eI t26))] ?_
      refine aG (aY (aH (?_)))
      refine aU aD 2 ?_
      refine bA ?_
      exact aG (aH (⟨rfl, _, (oI h1).symm, .eq (by kernel_rfl), hO⟩))
    refine iJ 0 ?_
    obtain rfl := oI h1
    obtain rfl : _ = rr0 := ho0
    replace h0 : rL iC = some r := h0
    exact aG (aX (aX (bX (aH (⟨rfl, _, .eq (by kernel_rfl), hO, h0⟩)))))
  refine aN ?_
  refine aU aD 5 ?_
  obtain ⟨c8, h0⟩ := aZ h0
  refine sW [0 ≤ (0 : Int) ∧ (0 : Int) < (lN f0)] ⟨c8, trivial⟩ ?_
  refine bT [] [(19, (aC (decide (((gD f0 (0 : Int)).At) = (-1 : Int)))))] ?_
  refine bO h0 (fun h0 => ?_) (fun h0 => ?_)
  · refine aU aD 5 ?_
    obtain ⟨c10, h0⟩ := aZ h0
    refine sW [0 ≤ (0 : Int) ∧ (0 : Int) < (lN f0)] ⟨c10, trivial⟩ ?_
    exact aG (aH (⟨rfl, _, _, .eq (by kernel_rfl), hO, h0⟩))
  refine bQ ?_
  exact aG (aH (⟨rfl, _, _, .eq (by kernel_rfl), hO, h0⟩))

theorem KU (f0 : (List aB)) (r : Bool) (h0 : pY f0 = some r) : dG Try.prog 50 [(eL aF f0)] (aC r) := by
  intro H0
  refine dF Try.func50 ?_
  have hO := aK.start H0
  unfold pY at h0
  refine aW aD 1 [] [] ?_
  refine aN ?_
  refine aU aD 8 ?_
  refine bK 1 ?_
  obtain ⟨x1, hx2, h0⟩ := aV h0
  refine dU (tQ f0 _ hx2) hO ?_
  intro H hO
  refine bK 4 ?_
  obtain ⟨x4, hx5, h0⟩ := aV h0
  refine mB [(5, true)] 52 [(eL aF f0)] (eI x4) x1 (by kernel_rfl) (by kernel_rfl) (by kernel_rfl) (fun hb6 => (PB f0 _ (iW hx5 hb6))) hO ?_
  intro H hO
  refine bA ?_
  refine bB [(2, (aC (x1 && (decide ((0 : Int) ≤ x4)))))] ?_
  refine bI ?_
  obtain rfl := oI h0
  exact aG (Q_r hO)

theorem QE (l0 : (List aM)) (r : Bool) (h0 : sY l0 = some r) : dG Try.prog 23 [(eL aL l0)] (aC r) := by
  intro H0
  refine dF Try.func23 ?_
  have hO := aK.start H0
  unfold sY at h0
  refine aW aD 1 [] [] ?_
  refine aN ?_
  refine aU aD 3 ?_
  refine bK 1 ?_
  obtain ⟨x1, hx2, h0⟩ := aV h0
  refine dU (GC l0 50 [] [] (fun y0 => pY y0) (fun y0 r h => KU y0 r h) _ hx2) hO ?_
  intro H hO
  refine bA ?_
  refine bB [(2, (aC x1))] ?_
  refine bI ?_
  obtain rfl := oI h0
  exact aG (Q_r hO)

theorem MX (l0 : (List aM)) (r : (List aM)) (h0 : uM l0 = some r) : dG Try.prog 32 [(eL aL l0)] (.fn (.func 55) [] [(.rp (eL aL r))]) := by
  intro H0
  refine dF Try.func32 ?_
  have hO := aK.start H0
  unfold uM at h0
  refine aN ?_
  refine aU aD 2 ?_
  refine gK 1 (eL aL l0) (by kernel_rfl) (by kernel_rfl) ?_
  refine bA ?_
  refine bB [(1, (.rp (eL aL l0)))] ?_
  refine cH aD 2 [(2, (.fn (.func 55) [] [(.rp (eL aL l0))]))] ?_
  refine bI ?_
  obtain rfl := oI h0
  exact aG (kY (x := (.fn (.func 55) [] [(.rp (eL aL l0))])) (by kernel_rfl) (aO.refl _) ⟨rfl, hO.out⟩)

theorem FO {σ : Type} (I : σ → Gs → Prop) (yield0_b : Nat) (cJ : σ → (List aE) → (List aB) → Option (σ × Bool)) (yield0_h : ∀ st a0 a1 st2 r, cJ st a0 a1 = some (st2, r) → yI Try.prog (yv yield0_b) I st [(eL aI a0), (eL aF a1)] st2 (aC r)) (t1 : (List aM)) (sg0 : σ) (r : σ) (h0 : nP cJ t1 sg0 = some r) : uJ Try.prog 55 I sg0 [(yv yield0_b), (.rp (eL aL t1))] r (.tup []) := by
  intro H0 G0 hI hg
  refine yP aD Try.func55 (by kernel_rfl) (by kernel_rfl) (by kernel_rfl) ?_
  obtain ⟨G, hO, hI⟩ : ∃ G, aK ⟨H0, List.map (fun p : Nat × cS => p.1) G0, G⟩ H0 [] ∧ I sg0 G := ⟨G0, aK.BJ hg, hI⟩
  clear hg
  unfold nP at h0
  refine aN ?_
  refine aU aD 1 ?_
  refine gK 1 (yv yield0_b) (by kernel_rfl) (by kernel_rfl) ?_
  refine dJ ?_
  refine bT [0] [(2, (.rp (yv yield0_b)))] ?_
  refine aN ?_
  refine aN ?_
  refine aU aD 3 ?_
  refine bK 1 ?_
  obtain ⟨x1, hx2, h0⟩ := aV h0
  refine dU (BU t1 _ hx2) hO ?_
  intro H hO
  refine bA ?_
  refine bT [] [(7, (aC (!x1)))] ?_
  refine bO h0 (fun h0 => ?_) (fun h0 => ?_)
  · refine bI ?_
    obtain rfl := oI h0
    exact aG (aT (QM0 (.inr rfl) (rs := []) (xs := []) (x := (.tup [])) (by kernel_rfl) lO (by kernel_rfl) ⟨rfl, G, hI, hO.wH⟩))
  refine bQ ?_
  refine bB [(1, (.rp (eL aL t1))), (2, (.rp (yv yield0_b)))] ?_
  refine aN ?_
  refine aU aD 2 ?_
  refine bK 1 ?_
  obtain ⟨x5, hx6, h0⟩ := aV h0
  refine dU (AW t1 _ hx6) hO ?_
  intro H hO
  refine dJ ?_
  refine bT [1] [(9, (.fn (.func 74) [] [(.rp (eL aL x5))]))] ?_
  refine cB 0 ?_
  refine fH [(2, (.rp (yv yield0_b))), (9, (.fn (.func 74) [] [(.rp (eL aL x5))]))] ?_
  refine fI (fun T H => ∃ sg : σ, ∃ t9c0 : (List aM), ∃ G : Gs, Has T [(2, (.rp (yv yield0_b))), (9, (.fn (.func 74) [] [(.rp (eL aL t9c0))]))] ∧ aK ⟨H0, List.map (fun p : Nat × cS => p.1) G0, G⟩ H [] ∧ I sg G ∧ oY cJ sg t9c0 = some r) ?_ ⟨sg0, x5, G, .eq (by kernel_rfl), hO, hI, h0⟩
  clear hO hI h0
  rintro T H ⟨sg, t9c0, G, hT, hO, hI, h0⟩
  refine bH (l := [(2, (.rp (yv yield0_b))), (9, (.fn (.func 74) [] [(.rp (eL aL t9c0))]))]) hT ?_
  clear hT
  unfold oY at h0
  obtain ⟨o0, hl0, h0⟩ := aV h0
  refine wK (fid := 74) (ys := []) (cs := [(.rp (eL aL t9c0))]) #[10, 11] (fun (A : qX) (b lL : Nat) (st : (σ) ⊕ (σ)) (G' : Gs) => Sum.elim (fun (s : σ) => ∃ G : Gs, I s G ∧ G' = (lL, .raw (fM b A .ready none)) :: (up [] ++ G)) (fun (s : σ) => ∃ G : Gs, I s G ∧ G' = (lL, .raw (fM b A .done (some .ret))) :: (up [] ++ G)) st) (.inl sg) o0 (.tup []) (by kernel_rfl) (by kernel_rfl) (by kernel_rfl) hO (fun _ _ => ⟨G, hI, rfl⟩) ?_ ?_
  · intro b lL
    clear hO hI h0
    refine vE _ b (fun st t10 t11 => rnd (fun (s : σ) => kL cJ t9c0 s t10 t11) st) ?_ t9c0 _ _ hl0
    intro st t10 t11 out1 rr hr
    obtain ⟨s, rfl, h1, rfl⟩ := GM hr
    clear hr
    intro Hr Gr hi hg
    obtain ⟨sg, rfl⟩ : ∃ x, x = s := ⟨_, rfl⟩
    dsimp only [Sum.elim_inl] at hi
    obtain ⟨G, hI, rfl⟩ := hi
    replace h1 : kL cJ t9c0 sg t10 t11 = some out1 := h1
    unfold kL at h1
    obtain ⟨E1, hE, hO⟩ := pL hg
    refine pM (uV (hO.gm 0 _ rfl).2 (by kernel_rfl) (by kernel_rfl) ?_)
    refine fH [(2, (.rp (yv yield0_b))), (9, (.fn (.func 74) [] [(.rp (eL aL t9c0))])), (10, (eL aI t10)), (11, (eL aF t11))] ?_
    refine aW aD 1 [9, 10] [(3, (eL aI t10))] ?_
    refine aU aD 1 ?_
    refine bA ?_
    refine eX [(2, (.rp (yv yield0_b))), (3, (eL aI t10)), (4, (eL aF t11))] ?_
    refine aG (⟨rfl, rfl, (hO.gm 0 _ rfl).2, ?_⟩)
    intro o1 ho1
    replace hO := hO.mW o1
    refine cB 1 ?_
    refine aN ?_
    refine aU aD 5 ?_
    refine bK 3 ?_
    obtain ⟨x7, hx8, h1⟩ := aV h1
    refine aAM (I := I) (yv yield0_b) [(eL aI t10), (eL aF t11)] (aC x7.2) (by kernel_rfl) (by kernel_rfl) (yield0_h _ t10 t11 x7.1 x7.2 hx8) hO hI ?_
    intro G H hO hI
    refine bA ?_
    refine bB [(16, (aC (!x7.2)))] ?_
    refine bO h1 (fun h1 => ?_) (fun h1 => ?_)
    · refine bI ?_
      refine eX [] ?_
      obtain rfl := oI h1
      exact aG (bF (⟨(dD hO hE ho1 .dead).1, rfl, _, ⟨G, hI, rfl⟩, (dD hO hE ho1 _).2⟩))
    refine bQ ?_
    refine eX [] ?_
    obtain rfl := oI h1
    exact aG (aY (⟨(dD hO hE ho1 .dead).1, rfl, _, ⟨G, hI, rfl⟩, (dD hO hE ho1 _).2⟩))
  · intro b lD10 lL H' G' hi hO
    rcases o0 with s | s
    · dsimp only [Sum.elim_inl] at hi
      obtain ⟨G, hI, rfl⟩ := hi
      replace h0 : (some s) = some r := h0
      obtain ⟨hlL, hO⟩ := lI hO
      refine ⟨_, _, hlL, (by intro e; cases e), ?_⟩
      obtain rfl := oI h0
      have hD := (hO.gm 0 _ rfl).2
      replace hO := (hO.mW .dead).nS
      exact aG (aY (QM1 (.inl rfl) hD (rs := []) (xs := []) (x := (.tup [])) (by kernel_rfl) lO (by kernel_rfl) ⟨rfl, G, hI, hO.wH⟩))
    · dsimp only [Sum.elim_inr] at hi
      obtain ⟨G, hI, rfl⟩ := hi
      replace h0 : (some s) = some r := h0
      obtain ⟨hlL, hO⟩ := lI hO
      refine ⟨_, _, hlL, (by intro e; cases e), ?_⟩
      refine bI ?_
      obtain rfl := oI h0
      have hD := (hO.gm 0 _ rfl).2
      replace hO := (hO.mW .dead).nS
      exact aG (bF (QM1 (.inr rfl) hD (rs := []) (xs := []) (x := (.tup [])) (by kernel_rfl) lO (by kernel_rfl) ⟨rfl, G, hI, hO.wH⟩))

theorem FM (x0 : Int) (r : Int) (h0 : nM x0 = some r) : dG Try.prog 88 [(cQ .u64 x0)] (eI r) := by
  intro H0
  refine dF Try.func88 ?_
  have hO := aK.start H0
  unfold nM at h0
  refine aW aD 1 [] [(2, (eI (0 : Int)))] ?_
  refine gX (fun T H => ∃ x0 : Int, ∃ n2 : Int, Has T [(0, (cQ .u64 x0)), (2, (eI n2))] ∧ aK ⟨H0, [], []⟩ H [] ∧ kH x0 n2 = some r) ?_ ?_
  · clear hO h0
    rintro T H ⟨x0, n2, hT, hO, h0⟩
    refine bH hT ?_
    clear hT
    unfold kH at h0
    refine gX (fun T H => ∃ x0 : Int, ∃ n2 : Int, Has T [(0, (cQ .u64 x0)), (2, (eI n2))] ∧ aK ⟨H0, [], []⟩ H [] ∧ kJ x0 n2 = some r) ?_ ?_
    · clear hO h0
      rintro T H ⟨x0, n2, hT, hO, h0⟩
      refine bH hT ?_
      clear hT
      unfold kJ at h0
      refine gX (fun T H => ∃ x0 : Int, ∃ n2 : Int, Has T [(0, (cQ .u64 x0)), (2, (eI n2))] ∧ aK ⟨H0, [], []⟩ H [] ∧ lR x0 n2 = some r) ?_ ?_
      · clear hO h0
        rintro T H ⟨x0, n2, hT, hO, h0⟩
        refine bH hT ?_
        clear hT
        unfold lR at h0
        refine aN ?_
        refine aU aD 7 ?_
        obtain ⟨c1, h0⟩ := aZ h0
        refine sW [0 ≤ (IntKind.u8.wrap x0) ∧ (IntKind.u8.wrap x0) < ((ByteArray.size (⟨#[0, 1, 2, 2, 3, 3, 3, 3, 4, 4, 4, 4, 4, 4, 4, 4, 5, 5, 5, 5, 5, 5, 5, 5, 5, 5, 5, 5, 5, 5, 5, 5, 6, 6, 6, 6, 6, 6, 6, 6, 6, 6, 6, 6, 6, 6, 6, 6, 6, 6, 6, 6, 6, 6, 6, 6, 6, 6, 6, 6, 6, 6, 6, 6, 7, 7, 7, 7, 7, 7, 7, 7, 7, 7, 7, 7, 7, 7, 7, 7, 7, 7, 7, 7, 7, 7, 7, 7, 7, 7, 7, 7, 7, 7, 7, 7, 7, 7, 7, 7, 7, 7, 7, 7, 7, 7, 7, 7, 7, 7, 7, 7, 7, 7, 7, 7, 7, 7, 7, 7, 7, 7, 7, 7, 7, 7, 7, 7, 8, 8, 8, 8, 8, 8, 8, 8, 8, 8, 8, 8, 8, 8, 8, 8, 8, 8, 8, 8, 8, 8, 8, 8, 8, 8, 8, 8, 8, 8, 8, 8, 8, 8, 8, 8, 8, 8, 8, 8, 8, 8, 8, 8, 8, 8, 8, 8, 8, 8, 8, 8, 8, 8, 8, 8, 8, 8, 8, 8, 8, 8, 8, 8, 8, 8, 8, 8, 8, 8, 8, 8, 8, 8, 8, 8, 8, 8, 8, 8, 8, 8, 8, 8, 8, 8, 8, 8, 8, 8, 8, 8, 8, 8, 8, 8, 8, 8, 8, 8, 8, 8, 8, 8, 8, 8, 8, 8, 8, 8, 8, 8, 8, 8, 8, 8, 8, 8, 8, 8, 8, 8, 8, 8, 8, 8, 8, 8]⟩ : ByteArray) : Nat) : Int)] ⟨c1, trivial⟩ ?_
        refine bB [(2, (eI (wR (n2 + (wR (bt (⟨#[0, 1, 2, 2, 3, 3, 3, 3, 4, 4, 4, 4, 4, 4, 4, 4, 5, 5, 5, 5, 5, 5, 5, 5, 5, 5, 5, 5, 5, 5, 5, 5, 6, 6, 6, 6, 6, 6, 6, 6, 6, 6, 6, 6, 6, 6, 6, 6, 6, 6, 6, 6, 6, 6, 6, 6, 6, 6, 6, 6, 6, 6, 6, 6, 7, 7, 7, 7, 7, 7, 7, 7, 7, 7, 7, 7, 7, 7, 7, 7, 7, 7, 7, 7, 7, 7, 7, 7, 7, 7, 7, 7, 7, 7, 7, 7, 7, 7, 7, 7, 7, 7, 7, 7, 7, 7, 7, 7, 7, 7, 7, 7, 7, 7, 7, 7, 7, 7, 7, 7, 7, 7, 7, 7, 7, 7, 7, 7, 8, 8, 8, 8, 8, 8, 8, 8, 8, 8, 8, 8, 8, 8, 8, 8, 8, 8, 8, 8, 8, 8, 8, 8, 8, 8, 8, 8, 8, 8, 8, 8, 8, 8, 8, 8, 8, 8, 8, 8, 8, 8, 8, 8, 8, 8, 8, 8, 8, 8, 8, 8, 8, 8, 8, 8, 8, 8, 8, 8, 8, 8, 8, 8, 8, 8, 8, 8, 8, 8, 8, 8, 8, 8, 8, 8, 8, 8, 8, 8, 8, 8, 8, 8, 8, 8, 8, 8, 8, 8, 8, 8, 8, 8, 8, 8, 8, 8, 8, 8, 8, 8, 8, 8, 8, 8, 8, 8, 8, 8, 8, 8, 8, 8, 8, 8, 8, 8, 8, 8, 8, 8, 8, 8, 8, 8, 8, 8]⟩ : ByteArray) (IntKind.u8.wrap x0)))))))] ?_
        refine bI ?_
        obtain rfl := oI h0
        exact aG (Q_r hO)
      refine aW aD 2 [] [(14, (aC (decide ((256 : Int) ≤ x0))))] ?_
      refine bO h0 (fun h0 => ?_) (fun h0 => ?_)
      · refine aN ?_
        refine aU aD 3 ?_
        obtain ⟨c3, h0⟩ := aZ h0
        refine sW [0 ≤ (8 : Int)] ⟨c3, trivial⟩ ?_
        refine bB [(0, (cQ .u64 (Int.fdiv x0 (2 ^ (min (Int.toNat (8 : Int)) 64))))), (2, (eI n2))] ?_
        refine aU aD 3 ?_
        refine bA ?_
        exact aG (aH (⟨rfl, _, _, .eq (by kernel_rfl), hO, h0⟩))
      refine bQ ?_
      exact aG (aH (⟨rfl, _, _, .eq (by kernel_rfl), hO, h0⟩))
    refine aW aD 2 [] [(8, (aC (decide ((65536 : Int) ≤ x0))))] ?_
    refine bO h0 (fun h0 => ?_) (fun h0 => ?_)
    · refine aN ?_
      refine aU aD 3 ?_
      obtain ⟨c5, h0⟩ := aZ h0
      refine sW [0 ≤ (16 : Int)] ⟨c5, trivial⟩ ?_
      refine bB [(0, (cQ .u64 (Int.fdiv x0 (2 ^ (min (Int.toNat (16 : Int)) 64))))), (2, (eI n2))] ?_
      refine aU aD 3 ?_
      refine bA ?_
      exact aG (aH (⟨rfl, _, _, .eq (by kernel_rfl), hO, h0⟩))
    refine bQ ?_
    exact aG (aH (⟨rfl, _, _, .eq (by kernel_rfl), hO, h0⟩))
  refine aW aD 2 [] [(4, (aC (decide ((4294967296 : Int) ≤ x0))))] ?_
  refine bO h0 (fun h0 => ?_) (fun h0 => ?_)
  · refine aN ?_
    refine aU aD 3 ?_
    obtain ⟨c7, h0⟩ := aZ h0
    refine sW [0 ≤ (32 : Int)] ⟨c7, trivial⟩ ?_
    refine bB [(0, (cQ .u64 (Int.fdiv x0 (2 ^ (min (Int.toNat (32 : Int)) 64)))))] ?_
    refine aU aD 1 ?_
    refine bA ?_
    exact aG (aH (⟨rfl, _, _, .eq (by kernel_rfl), hO, h0⟩))
  refine bQ ?_
  exact aG (aH (⟨rfl, _, _, .eq (by kernel_rfl), hO, h0⟩))

theorem AE (x0 : Int) (r : Int) (h0 : kA x0 = some r) : dG Try.prog 62 [(cQ .u64 x0)] (eI r) := by
  intro H0
  refine dF Try.func62 ?_
  have hO := aK.start H0
  unfold kA at h0
  refine aW aD 1 [] [] ?_
  refine aN ?_
  refine mA (false) (fun hc1 => ?_) (fun hc1 => ?_)
  · cases hc1
  · refine bQ ?_
    refine aG (aH ?_)
    refine aN ?_
    refine aU aD 3 ?_
    refine bK 1 ?_
    obtain ⟨x2, hx3, h0⟩ := aV h0
    refine dU (FM x0 _ hx3) hO ?_
    intro H hO
    refine bA ?_
    refine bB [(2, (eI x2))] ?_
    refine bI ?_
    obtain rfl := oI h0
    exact aG (Q_r hO)

theorem fL (x0 : Int) (y1 : Int) (r : Bool) (h0 : cY x0 y1 = some r) : dG Try.prog 84 [(eI x0), (eI y1)] (aC r) := by
  intro H0
  refine dF Try.func84 ?_
  have hO := aK.start H0
  unfold cY at h0
  refine aW aD 1 [] [] ?_
  refine aN ?_
  refine aU aD 13 ?_
  refine bK 1 ?_
  obtain ⟨x1, hx2, h0⟩ := aV h0
  refine dU (rZ x0 _ hx2) hO ?_
  intro H hO
  refine bK 4 ?_
  obtain ⟨x4, hx5, h0⟩ := aV h0
  refine mB [(7, true)] 105 [(eI y1)] (aC x4) x1 (by kernel_rfl) (by kernel_rfl) (by kernel_rfl) (fun hb6 => (rZ y1 _ (iW hx5 hb6))) hO ?_
  intro H hO
  refine bA ?_
  refine bB [(4, (aC ((x1 && (!x4)) || (decide (x0 < y1)))))] ?_
  refine bI ?_
  obtain rfl := oI h0
  exact aG (Q_r hO)

theorem uA (lo0p : Nat) (aA : (List Int)) (a1 : Int) (b2 : Int) (r : List Int) (h0 : gM aA a1 b2 = some r) : mV Try.prog 78 lo0p 1 (List.map (eI) aA) (List.map (eI) r) [(.msl 1 lo0p 0 (List.length aA)), (eI a1), (eI b2)] (.tup []) := by
  intro H0 hl0
  refine dF Try.func78 ?_
  have hO := aK.rI hl0
  clear hl0
  obtain ⟨N0, hN0⟩ : ∃ n, n = List.length aA := ⟨_, rfl⟩
  have hN : List.length aA = N0 := hN0.symm
  unfold gM at h0
  refine aW aD 3 [] [(6, (eI (wR (a1 + (1 : Int)))))] ?_
  refine cB 0 ?_
  refine fH [(0, (.msl 1 lo0p 0 (List.length aA))), (1, (eI a1)), (2, (eI b2)), (6, (eI (wR (a1 + (1 : Int)))))] ?_
  refine fI (fun T H => ∃ aA : List Int, ∃ i6 : Int, Has T [(0, (.msl 1 lo0p 0 (List.length aA))), (1, (eI a1)), (2, (eI b2)), (6, (eI i6))] ∧ aK ⟨H0, [lo0p], []⟩ H [(lo0p, 1, List.map (eI) aA)] ∧ List.length aA = N0 ∧ jD aA a1 b2 i6 = some r) ?_ ⟨aA, wR (a1 + (1 : Int)), .eq (by kernel_rfl), hO, hN, h0⟩
  clear hO hN h0
  rintro T H ⟨aA, i6, hT, hO, hN, h0⟩
  refine bH hT ?_
  clear hT
  unfold jD at h0
  obtain ⟨rr0, hl0, h0⟩ := aV h0
  refine dM (by kernel_rfl) (fun (s : List Int × Int) T H => Has T [(0, (.msl 1 lo0p 0 (List.length s.1))), (1, (eI a1)), (2, (eI b2)), (6, (eI s.2))] ∧ aK ⟨H0, [lo0p], []⟩ H [(lo0p, 1, List.map (eI) s.1)] ∧ List.length s.1 = N0) hl0 ⟨.eq (by kernel_rfl), hO, hN⟩ ?_
  clear hO hN
  rintro k0 s out1 T H ⟨hT, hO, hN⟩ h1 ho0
  obtain ⟨aA, i6⟩ := s
  replace h1 : cZ a1 b2 aA i6 = some out1 := h1
  try dsimp only at hT
  refine bH hT ?_
  clear hT
  unfold cZ at h1
  refine aN ?_
  refine aW aD 3 [] [(12, (aC (decide (i6 < b2))))] ?_
  refine bO h1 (fun h1 => ?_) (fun h1 => ?_)
  · refine bQ ?_
    refine bB [(0, (.msl 1 lo0p 0 (List.length aA))), (1, (eI a1)), (2, (eI b2)), (6, (eI i6))] ?_
    refine gX (fun T H => ∃ aA : List Int, Has T [(0, (.msl 1 lo0p 0 (List.length aA))), (1, (eI a1)), (2, (eI b2)), (6, (eI i6))] ∧ aK ⟨H0, [lo0p], []⟩ H [(lo0p, 1, List.map (eI) aA)] ∧ List.length aA = N0 ∧ fY aA a1 b2 i6 = some out1) ?_ ?_
    · clear hO hN h1
      rintro T H ⟨aA, hT, hO, hN, h1⟩
      refine bH hT ?_
      clear hT
      unfold fY at h1
      refine aU aD 3 ?_
      refine bA ?_
      exact aG (aH (⟨rfl, _, (oI h1).symm, .eq (by kernel_rfl), hO, hN⟩))
    refine cB 1 ?_
    refine aW aD 2 [] [(7, (eI i6))] ?_
    refine cB 2 ?_
    refine fH [(0, (.msl 1 lo0p 0 (List.length aA))), (1, (eI a1)), (2, (eI b2)), (6, (eI i6)), (7, (eI i6))] ?_
    refine fI (fun T H => ∃ aA : List Int, ∃ j7 : Int, Has T [(0, (.msl 1 lo0p 0 (List.length aA))), (1, (eI a1)), (2, (eI b2)), (6, (eI i6)), (7, (eI j7))] ∧ aK ⟨H0, [lo0p], []⟩ H [(lo0p, 1, List.map (eI) aA)] ∧ List.length aA = N0 ∧ jB aA a1 b2 i6 j7 = some out1) ?_ ⟨aA, i6, .eq (by kernel_rfl), hO, hN, h1⟩
    clear hO hN h1
    rintro T H ⟨aA, j7, hT, hO, hN, h1⟩
    refine bH hT ?_
    clear hT
    unfold jB at h1
    obtain ⟨rr1, hl1, h1⟩ := aV h1
    refine dM (by kernel_rfl) (fun (s : List Int × Int) T H => Has T [(0, (.msl 1 lo0p 0 (List.length s.1))), (1, (eI a1)), (2, (eI b2)), (6, (eI i6)), (7, (eI s.2))] ∧ aK ⟨H0, [lo0p], []⟩ H [(lo0p, 1, List.map (eI) s.1)] ∧ List.length s.1 = N0) hl1 ⟨.eq (by kernel_rfl), hO, hN⟩ ?_
    clear hO hN
    rintro k1 s out2 T H ⟨hT, hO, hN⟩ h2 ho1
    obtain ⟨aA, j7⟩ := s
    replace h2 : eP a1 b2 i6 aA j7 = some out2 := h2
    try dsimp only at hT
    refine bH hT ?_
    clear hT
    unfold eP at h2
    refine aN ?_
    refine aN ?_
    obtain ⟨c2, h2⟩ := aZ h2
    obtain ⟨c3, h2⟩ := aZ h2
    obtain ⟨x4, hx5, h2⟩ := aV h2
    refine fX (gC []) aD 15 ?_
    refine oK (K := fun T H => Has (lift T) [(0, (.msl 1 lo0p 0 (List.length aA))), (1, (eI a1)), (2, (eI b2)), (6, (eI i6)), (7, (eI j7)), (30, (aC ((decide (a1 < j7)) && x4)))] ∧ aK ⟨H0, [lo0p], []⟩ H [(lo0p, 1, List.map (eI) aA)]) ?_ ?_
    · refine lT 4 ?_
      refine mP (t := 19) (e := decide (a1 < j7)) (by kernel_rfl) (fun hg6 => ?_) (fun hg6 => ?_)
      · refine cD 7 [0 ≤ j7 ∧ j7 < (lN aA)] ⟨(c2 hg6), trivial⟩ ?_
        refine jJ 0 lo0p 1 (0 + Int.toNat j7) (eI (gD aA j7)) (eI (gD aA j7)) (List.map (eI) aA) (by kernel_rfl) (by kernel_rfl) (by kernel_rfl) hO (by kernel_rfl) (bV (c2 hg6)) ?_
        refine cD 12 [0 ≤ (wR (j7 - (1 : Int))) ∧ (wR (j7 - (1 : Int))) < (lN aA)] ⟨(c3 hg6), trivial⟩ ?_
        refine jJ 0 lo0p 1 (0 + Int.toNat (wR (j7 - (1 : Int)))) (eI (gD aA (wR (j7 - (1 : Int))))) (eI (gD aA (wR (j7 - (1 : Int))))) (List.map (eI) aA) (by kernel_rfl) (by kernel_rfl) (by kernel_rfl) hO (by kernel_rfl) (bV (c3 hg6)) ?_
        refine nD 84 [(eI (gD aA j7)), (eI (gD aA (wR (j7 - (1 : Int)))))] (aC x4) (by kernel_rfl) (by kernel_rfl) (fL (gD aA j7) (gD aA (wR (j7 - (1 : Int)))) _ (iW hx5 hg6)) hO ?_
        intro H hO
        refine jP ?_
        exact ⟨⟨[(0, (.msl 1 lo0p 0 (List.length aA))), (1, (eI a1)), (2, (eI b2)), (6, (eI i6)), (7, (eI j7)), (30, (aC x4))], by kernel_rfl, rfl, ⟨aO.refl _, aO.refl _, aO.refl _, aO.refl _, aO.refl _, aO.eq (congrArg aC (nF hg6 rfl).symm), trivial⟩⟩, hO⟩
      refine jP ?_
      exact ⟨⟨[(0, (.msl 1 lo0p 0 (List.length aA))), (1, (eI a1)), (2, (eI b2)), (6, (eI i6)), (7, (eI j7)), (30, (aC false))], by kernel_rfl, rfl, ⟨aO.refl _, aO.refl _, aO.refl _, aO.refl _, aO.refl _, aO.eq (congrArg aC (nF hg6 rfl).symm), trivial⟩⟩, hO⟩
    · rintro T H ⟨hT, hO⟩
      refine eB hT ?_
      clear hT
      refine aG (aH ?_)
      refine bO h2 (fun h2 => ?_) (fun h2 => ?_)
      · refine bQ ?_
        refine bB [(0, (.msl 1 lo0p 0 (List.length aA))), (1, (eI a1)), (2, (eI b2)), (6, (eI i6)), (7, (eI j7))] ?_
        refine aN ?_
        refine cB 3 ?_
        refine fX (gC []) aD 18 ?_
        obtain ⟨c8, h2⟩ := aZ h2
        refine cD 9 [0 ≤ (wR (j7 - (1 : Int))) ∧ (wR (j7 - (1 : Int))) < (lN aA)] ⟨c8, trivial⟩ ?_
        refine gZ 0 lo0p 1 (0 + Int.toNat (wR (j7 - (1 : Int)))) (eI (gD aA (wR (j7 - (1 : Int))))) (eI (gD aA (wR (j7 - (1 : Int))))) (List.map (eI) aA) hO (bV c8) ?_
        obtain ⟨c9, h2⟩ := aZ h2
        refine cD 13 [0 ≤ j7 ∧ j7 < (lN aA)] ⟨c9, trivial⟩ ?_
        refine gZ 0 lo0p 1 (0 + Int.toNat j7) (eI (gD aA j7)) (eI (gD aA j7)) (List.map (eI) aA) hO (bV c9) ?_
        obtain ⟨c10, h2⟩ := aZ h2
        refine cD 15 [0 ≤ j7 ∧ j7 < (lN aA)] ⟨c10, trivial⟩ ?_
        refine kO 0 lo0p 1 (0 + Int.toNat j7) (eI (gD aA j7)) (eI (gD aA (wR (j7 - (1 : Int))))) (List.map (eI) aA) [(lo0p, 1, List.map (eI) (List.set aA (Int.toNat j7) (gD aA (wR (j7 - (1 : Int))))))] hO (bV c10) (by simp only [List.set, iA]) ?_
        intro H hO
        replace hN : List.length (List.set aA (Int.toNat j7) (gD aA (wR (j7 - (1 : Int))))) = N0 := by simpa using hN
        obtain ⟨c11, h2⟩ := aZ h2
        refine cD 17 [0 ≤ (wR (j7 - (1 : Int))) ∧ (wR (j7 - (1 : Int))) < (lN aA)] ⟨c11, trivial⟩ ?_
        refine kO 0 lo0p 1 (0 + Int.toNat (wR (j7 - (1 : Int)))) (eI (gD (List.set aA (Int.toNat j7) (gD aA (wR (j7 - (1 : Int))))) (wR (j7 - (1 : Int))))) (eI (gD aA j7)) (List.map (eI) (List.set aA (Int.toNat j7) (gD aA (wR (j7 - (1 : Int)))))) [(lo0p, 1, List.map (eI) (List.set (List.set aA (Int.toNat j7) (gD aA (wR (j7 - (1 : Int))))) (Int.toNat (wR (j7 - (1 : Int)))) (gD aA j7)))] hO (mJ c11 (by simp [])) (by simp only [List.set, iA]) ?_
        intro H hO
        replace hN : List.length (List.set (List.set aA (Int.toNat j7) (gD aA (wR (j7 - (1 : Int))))) (Int.toNat (wR (j7 - (1 : Int)))) (gD aA j7)) = N0 := by simpa using hN
        refine mZ (by kernel_rfl) ?_
        refine eB (l := [(0, (.msl 1 lo0p 0 (List.length (List.set (List.set aA (Int.toNat j7) (gD aA (wR (j7 - (1 : Int))))) (Int.toNat (wR (j7 - (1 : Int)))) (gD aA j7))))), (1, (eI a1)), (2, (eI b2)), (6, (eI i6)), (7, (eI j7))]) ⟨[(0, (.msl 1 lo0p 0 (List.length aA))), (1, (eI a1)), (2, (eI b2)), (6, (eI i6)), (7, (eI j7))], by kernel_rfl, rfl, ⟨aO.eq (by simp []), aO.refl _, aO.refl _, aO.refl _, aO.refl _, trivial⟩⟩ ?_
        refine aG (aY (aH (?_)))
        refine aU aD 3 ?_
        refine bA ?_
        exact aG (aH (⟨rfl, _, (oI h2).symm, .eq (by kernel_rfl), hO, hN⟩))
      refine iJ 2 ?_
      obtain rfl := oI h2
      obtain rfl : _ = rr1 := ho1
      replace h1 : fY aA a1 b2 i6 = some out1 := h1
      exact aG (aX (aX (bX (aY (aH (⟨rfl, _, .eq (by kernel_rfl), hO, hN, h1⟩))))))
  refine iJ 0 ?_
  obtain rfl := oI h1
  obtain rfl : _ = rr0 := ho0
  replace h0 : some aA = some r := h0
  obtain rfl := oI h0
  exact aG (aX (aX (bX (wD (x := (.tup [])) (by kernel_rfl) (aO.refl _) ⟨rfl, hO.ext, hO.at 0 (by kernel_rfl), by first | rfl | (simp only [List.length_map]; exact hN.trans hN0)⟩))))

theorem pS (lo0p : Nat) (aA : (List Int)) (lo1 : Int) (hi2 : Int) (bE : Int) (r : List Int) (h0 : fB aA lo1 hi2 bE = some r) : mV Try.prog 100 lo0p 1 (List.map (eI) aA) (List.map (eI) r) [(.msl 1 lo0p 0 (List.length aA)), (eI lo1), (eI hi2), (eI bE)] (.tup []) := by
  intro H0 hl0
  refine dF Try.func100 ?_
  have hO := aK.rI hl0
  clear hl0
  obtain ⟨N0, hN0⟩ : ∃ n, n = List.length aA := ⟨_, rfl⟩
  have hN : List.length aA = N0 := hN0.symm
  unfold fB at h0
  refine aW aD 2 [1] [(8, (eI lo1))] ?_
  refine cB 0 ?_
  refine fH [(0, (.msl 1 lo0p 0 (List.length aA))), (2, (eI hi2)), (3, (eI bE)), (8, (eI lo1))] ?_
  refine fI (fun T H => ∃ aA : List Int, ∃ bZ : Int, Has T [(0, (.msl 1 lo0p 0 (List.length aA))), (2, (eI hi2)), (3, (eI bE)), (8, (eI bZ))] ∧ aK ⟨H0, [lo0p], []⟩ H [(lo0p, 1, List.map (eI) aA)] ∧ List.length aA = N0 ∧ kG aA hi2 bE bZ = some r) ?_ ⟨aA, lo1, .eq (by kernel_rfl), hO, hN, h0⟩
  clear hO hN h0
  rintro T H ⟨aA, bZ, hT, hO, hN, h0⟩
  refine bH hT ?_
  clear hT
  unfold kG at h0
  obtain ⟨rr0, hl0, h0⟩ := aV h0
  refine dM (by kernel_rfl) (fun (s : List Int × Int) T H => Has T [(0, (.msl 1 lo0p 0 (List.length s.1))), (2, (eI hi2)), (3, (eI bE)), (8, (eI s.2))] ∧ aK ⟨H0, [lo0p], []⟩ H [(lo0p, 1, List.map (eI) s.1)] ∧ List.length s.1 = N0) hl0 ⟨.eq (by kernel_rfl), hO, hN⟩ ?_
  clear hO hN
  rintro k0 s out1 T H ⟨hT, hO, hN⟩ h1 ho0
  obtain ⟨aA, bZ⟩ := s
  replace h1 : cV hi2 bE aA bZ = some out1 := h1
  try dsimp only at hT
  refine bH hT ?_
  clear hT
  unfold cV at h1
  refine cB 1 ?_
  refine aW aD 4 [] [(9, (eI (wR ((wR ((2 : Int) * bZ)) + (1 : Int)))))] ?_
  refine aN ?_
  refine aW aD 3 [] [(16, (aC (decide (hi2 ≤ (wR ((wR ((2 : Int) * bZ)) + (1 : Int)))))))] ?_
  refine bO h1 (fun h1 => ?_) (fun h1 => ?_)
  · refine iJ 0 ?_
    obtain rfl := oI h1
    obtain rfl : _ = rr0 := ho0
    replace h0 : some aA = some r := h0
    obtain rfl := oI h0
    exact aG (aX (pI (by kernel_rfl) (aX (bX (wD (x := (.tup [])) (by kernel_rfl) (aO.refl _) ⟨rfl, hO.ext, hO.at 0 (by kernel_rfl), by first | rfl | (simp only [List.length_map]; exact hN.trans hN0)⟩)))))
  refine bQ ?_
  refine bB [(0, (.msl 1 lo0p 0 (List.length aA))), (2, (eI hi2)), (3, (eI bE)), (8, (eI bZ)), (9, (eI (wR ((wR ((2 : Int) * bZ)) + (1 : Int)))))] ?_
  refine gX (fun T H => ∃ aA : List Int, ∃ dW : Int, Has T [(0, (.msl 1 lo0p 0 (List.length aA))), (2, (eI hi2)), (3, (eI bE)), (8, (eI bZ)), (9, (eI dW))] ∧ aK ⟨H0, [lo0p], []⟩ H [(lo0p, 1, List.map (eI) aA)] ∧ List.length aA = N0 ∧ gE aA hi2 bE bZ dW = some out1) ?_ ?_
  · clear hO hN h1
    rintro T H ⟨aA, dW, hT, hO, hN, h1⟩
    refine bH hT ?_
    clear hT
    unfold gE at h1
    refine aN ?_
    refine aN ?_
    refine fX (gC [51]) aD 14 ?_
    obtain ⟨c2, h1⟩ := aZ h1
    refine cD 5 [0 ≤ (wR (bE + bZ)) ∧ (wR (bE + bZ)) < (lN aA)] ⟨c2, trivial⟩ ?_
    refine gZ 0 lo0p 1 (0 + Int.toNat (wR (bE + bZ))) (eI (gD aA (wR (bE + bZ)))) (eI (gD aA (wR (bE + bZ)))) (List.map (eI) aA) hO (bV c2) ?_
    obtain ⟨c3, h1⟩ := aZ h1
    refine cD 11 [0 ≤ (wR (bE + dW)) ∧ (wR (bE + dW)) < (lN aA)] ⟨c3, trivial⟩ ?_
    refine gZ 0 lo0p 1 (0 + Int.toNat (wR (bE + dW))) (eI (gD aA (wR (bE + dW)))) (eI (gD aA (wR (bE + dW)))) (List.map (eI) aA) hO (bV c3) ?_
    obtain ⟨x4, hx5, h1⟩ := aV h1
    refine yY (fL (gD aA (wR (bE + bZ))) (gD aA (wR (bE + dW))) _ hx5) hO ?_
    intro H hO
    refine jP ?_
    refine bT [] [(52, (aC (!x4)))] ?_
    refine bO h1 (fun h1 => ?_) (fun h1 => ?_)
    · refine bI ?_
      obtain rfl := oI h1
      obtain rfl : _ = rr0 := ho0
      replace h0 : some aA = some r := h0
      obtain rfl := oI h0
      exact aG (aT (bF (aT (bF (kY (x := (.tup [])) (by kernel_rfl) (aO.refl _) ⟨rfl, hO.ext, hO.at 0 (by kernel_rfl), by first | rfl | (simp only [List.length_map]; exact hN.trans hN0)⟩)))))
    refine bQ ?_
    refine bB [(0, (.msl 1 lo0p 0 (List.length aA))), (2, (eI hi2)), (3, (eI bE)), (8, (eI bZ)), (9, (eI dW))] ?_
    refine aN ?_
    refine fX (gC []) aD 24 ?_
    obtain ⟨c8, h1⟩ := aZ h1
    refine cD 13 [0 ≤ (wR (bE + dW)) ∧ (wR (bE + dW)) < (lN aA)] ⟨c8, trivial⟩ ?_
    refine gZ 0 lo0p 1 (0 + Int.toNat (wR (bE + dW))) (eI (gD aA (wR (bE + dW)))) (eI (gD aA (wR (bE + dW)))) (List.map (eI) aA) hO (bV c8) ?_
    obtain ⟨c9, h1⟩ := aZ h1
    refine cD 19 [0 ≤ (wR (bE + bZ)) ∧ (wR (bE + bZ)) < (lN aA)] ⟨c9, trivial⟩ ?_
    refine gZ 0 lo0p 1 (0 + Int.toNat (wR (bE + bZ))) (eI (gD aA (wR (bE + bZ)))) (eI (gD aA (wR (bE + bZ)))) (List.map (eI) aA) hO (bV c9) ?_
    obtain ⟨c10, h1⟩ := aZ h1
    refine cD 21 [0 ≤ (wR (bE + bZ)) ∧ (wR (bE + bZ)) < (lN aA)] ⟨c10, trivial⟩ ?_
    refine kO 0 lo0p 1 (0 + Int.toNat (wR (bE + bZ))) (eI (gD aA (wR (bE + bZ)))) (eI (gD aA (wR (bE + dW)))) (List.map (eI) aA) [(lo0p, 1, List.map (eI) (List.set aA (Int.toNat (wR (bE + bZ))) (gD aA (wR (bE + dW)))))] hO (bV c10) (by simp only [List.set, iA]) ?_
    intro H hO
    replace hN : List.length (List.set aA (Int.toNat (wR (bE + bZ))) (gD aA (wR (bE + dW)))) = N0 := by simpa using hN
    obtain ⟨c11, h1⟩ := aZ h1
    refine cD 23 [0 ≤ (wR (bE + dW)) ∧ (wR (bE + dW)) < (lN aA)] ⟨c11, trivial⟩ ?_
    refine kO 0 lo0p 1 (0 + Int.toNat (wR (bE + dW))) (eI (gD (List.set aA (Int.toNat (wR (bE + bZ))) (gD aA (wR (bE + dW)))) (wR (bE + dW)))) (eI (gD aA (wR (bE + bZ)))) (List.map (eI) (List.set aA (Int.toNat (wR (bE + bZ))) (gD aA (wR (bE + dW))))) [(lo0p, 1, List.map (eI) (List.set (List.set aA (Int.toNat (wR (bE + bZ))) (gD aA (wR (bE + dW)))) (Int.toNat (wR (bE + dW))) (gD aA (wR (bE + bZ)))))] hO (mJ c11 (by simp [])) (by simp only [List.set, iA]) ?_
    intro H hO
    replace hN : List.length (List.set (List.set aA (Int.toNat (wR (bE + bZ))) (gD aA (wR (bE + dW)))) (Int.toNat (wR (bE + dW))) (gD aA (wR (bE + bZ)))) = N0 := by simpa using hN
    refine mZ (by kernel_rfl) ?_
    refine eB (l := [(0, (.msl 1 lo0p 0 (List.length (List.set (List.set aA (Int.toNat (wR (bE + bZ))) (gD aA (wR (bE + dW)))) (Int.toNat (wR (bE + dW))) (gD aA (wR (bE + bZ))))))), (2, (eI hi2)), (3, (eI bE)), (9, (eI dW))]) ⟨[(0, (.msl 1 lo0p 0 (List.length aA))), (2, (eI hi2)), (3, (eI bE)), (9, (eI dW))], by kernel_rfl, rfl, ⟨aO.eq (by simp []), aO.refl _, aO.refl _, aO.refl _, trivial⟩⟩ ?_
    refine aG (aH (?_))
    refine aU aD 2 ?_
    refine bA ?_
    exact aG (aY (aH (⟨rfl, _, (oI h1).symm, .eq (by kernel_rfl), hO, hN⟩)))
  refine aN ?_
  obtain ⟨c12, h1⟩ := aZ h1
  obtain ⟨c13, h1⟩ := aZ h1
  obtain ⟨x14, hx15, h1⟩ := aV h1
  refine fX (gC []) aD 20 ?_
  refine oK (K := fun T H => Has (lift T) [(0, (.msl 1 lo0p 0 (List.length aA))), (2, (eI hi2)), (3, (eI bE)), (8, (eI bZ)), (9, (eI (wR ((wR ((2 : Int) * bZ)) + (1 : Int))))), (36, (aC ((decide ((wR ((wR ((wR ((2 : Int) * bZ)) + (1 : Int))) + (1 : Int))) < hi2)) && x14)))] ∧ aK ⟨H0, [lo0p], []⟩ H [(lo0p, 1, List.map (eI) aA)]) ?_ ?_
  · refine lT 5 ?_
    refine mP (t := 21) (e := decide ((wR ((wR ((wR ((2 : Int) * bZ)) + (1 : Int))) + (1 : Int))) < hi2)) (by kernel_rfl) (fun hg16 => ?_) (fun hg16 => ?_)
    · refine cD 10 [0 ≤ (wR (bE + (wR ((wR ((2 : Int) * bZ)) + (1 : Int))))) ∧ (wR (bE + (wR ((wR ((2 : Int) * bZ)) + (1 : Int))))) < (lN aA)] ⟨(c12 hg16), trivial⟩ ?_
      refine jJ 0 lo0p 1 (0 + Int.toNat (wR (bE + (wR ((wR ((2 : Int) * bZ)) + (1 : Int)))))) (eI (gD aA (wR (bE + (wR ((wR ((2 : Int) * bZ)) + (1 : Int))))))) (eI (gD aA (wR (bE + (wR ((wR ((2 : Int) * bZ)) + (1 : Int))))))) (List.map (eI) aA) (by kernel_rfl) (by kernel_rfl) (by kernel_rfl) hO (by kernel_rfl) (bV (c12 hg16)) ?_
      refine cD 17 [0 ≤ (wR ((wR (bE + (wR ((wR ((2 : Int) * bZ)) + (1 : Int))))) + (1 : Int))) ∧ (wR ((wR (bE + (wR ((wR ((2 : Int) * bZ)) + (1 : Int))))) + (1 : Int))) < (lN aA)] ⟨(c13 hg16), trivial⟩ ?_
      refine jJ 0 lo0p 1 (0 + Int.toNat (wR ((wR (bE + (wR ((wR ((2 : Int) * bZ)) + (1 : Int))))) + (1 : Int)))) (eI (gD aA (wR ((wR (bE + (wR ((wR ((2 : Int) * bZ)) + (1 : Int))))) + (1 : Int))))) (eI (gD aA (wR ((wR (bE + (wR ((wR ((2 : Int) * bZ)) + (1 : Int))))) + (1 : Int))))) (List.map (eI) aA) (by kernel_rfl) (by kernel_rfl) (by kernel_rfl) hO (by kernel_rfl) (bV (c13 hg16)) ?_
      refine nD 84 [(eI (gD aA (wR (bE + (wR ((wR ((2 : Int) * bZ)) + (1 : Int))))))), (eI (gD aA (wR ((wR (bE + (wR ((wR ((2 : Int) * bZ)) + (1 : Int))))) + (1 : Int)))))] (aC x14) (by kernel_rfl) (by kernel_rfl) (fL (gD aA (wR (bE + (wR ((wR ((2 : Int) * bZ)) + (1 : Int)))))) (gD aA (wR ((wR (bE + (wR ((wR ((2 : Int) * bZ)) + (1 : Int))))) + (1 : Int)))) _ (iW hx15 hg16)) hO ?_
      intro H hO
      refine jP ?_
      exact ⟨⟨[(0, (.msl 1 lo0p 0 (List.length aA))), (2, (eI hi2)), (3, (eI bE)), (8, (eI bZ)), (9, (eI (wR ((wR ((2 : Int) * bZ)) + (1 : Int))))), (36, (aC x14))], by kernel_rfl, rfl, ⟨aO.refl _, aO.refl _, aO.refl _, aO.refl _, aO.refl _, aO.eq (congrArg aC (nF hg16 rfl).symm), trivial⟩⟩, hO⟩
    refine jP ?_
    exact ⟨⟨[(0, (.msl 1 lo0p 0 (List.length aA))), (2, (eI hi2)), (3, (eI bE)), (8, (eI bZ)), (9, (eI (wR ((wR ((2 : Int) * bZ)) + (1 : Int))))), (36, (aC false))], by kernel_rfl, rfl, ⟨aO.refl _, aO.refl _, aO.refl _, aO.refl _, aO.refl _, aO.eq (congrArg aC (nF hg16 rfl).symm), trivial⟩⟩, hO⟩
  · rintro T H ⟨hT, hO⟩
    refine eB hT ?_
    clear hT
    refine aG (aH ?_)
    refine bO h1 (fun h1 => ?_) (fun h1 => ?_)
    · refine aU aD 3 ?_
      refine bA ?_
      exact aG (aH (⟨rfl, _, _, .eq (by kernel_rfl), hO, hN, h1⟩))
    refine bQ ?_
    exact aG (aH (⟨rfl, _, _, .eq (by kernel_rfl), hO, hN, h1⟩))

theorem wU (lo0p : Nat) (aA : (List Int)) (a1 : Int) (b2 : Int) (r : List Int) (h0 : jF aA a1 b2 = some r) : mV Try.prog 79 lo0p 1 (List.map (eI) aA) (List.map (eI) r) [(.msl 1 lo0p 0 (List.length aA)), (eI a1), (eI b2)] (.tup []) := by
  intro H0 hl0
  refine dF Try.func79 ?_
  have hO := aK.rI hl0
  clear hl0
  obtain ⟨N0, hN0⟩ : ∃ n, n = List.length aA := ⟨_, rfl⟩
  have hN : List.length aA = N0 := hN0.symm
  unfold jF at h0
  refine aW aD 2 [] [(6, (eI a1))] ?_
  refine aW aD 1 [] [(7, (eI (0 : Int)))] ?_
  refine aW aD 4 [1, 2] [(8, (eI (wR (b2 - a1))))] ?_
  refine gX (fun T H => ∃ aA : List Int, ∃ bN : Int, ∃ lo7 : Int, ∃ hi8 : Int, Has T [(0, (.msl 1 lo0p 0 (List.length aA))), (6, (eI bN)), (7, (eI lo7)), (8, (eI hi8))] ∧ aK ⟨H0, [lo0p], []⟩ H [(lo0p, 1, List.map (eI) aA)] ∧ List.length aA = N0 ∧ iY aA bN lo7 hi8 = some r) ?_ ?_
  · clear hO hN h0
    rintro T H ⟨aA, bN, lo7, hi8, hT, hO, hN, h0⟩
    refine bH hT ?_
    clear hT
    unfold iY at h0
    refine aW aD 3 [8] [(10, (eI (wR (hi8 - (1 : Int)))))] ?_
    refine cB 2 ?_
    refine fH [(0, (.msl 1 lo0p 0 (List.length aA))), (6, (eI bN)), (7, (eI lo7)), (10, (eI (wR (hi8 - (1 : Int)))))] ?_
    refine fI (fun T H => ∃ aA : List Int, ∃ i10 : Int, Has T [(0, (.msl 1 lo0p 0 (List.length aA))), (6, (eI bN)), (7, (eI lo7)), (10, (eI i10))] ∧ aK ⟨H0, [lo0p], []⟩ H [(lo0p, 1, List.map (eI) aA)] ∧ List.length aA = N0 ∧ kF aA bN lo7 i10 = some r) ?_ ⟨aA, wR (hi8 - (1 : Int)), .eq (by kernel_rfl), hO, hN, h0⟩
    clear hO hN h0
    rintro T H ⟨aA, i10, hT, hO, hN, h0⟩
    refine bH hT ?_
    clear hT
    unfold kF at h0
    obtain ⟨rr0, hl0, h0⟩ := aV h0
    refine dM (by kernel_rfl) (fun (s : List Int × Int) T H => Has T [(0, (.msl 1 lo0p 0 (List.length s.1))), (6, (eI bN)), (7, (eI lo7)), (10, (eI s.2))] ∧ aK ⟨H0, [lo0p], []⟩ H [(lo0p, 1, List.map (eI) s.1)] ∧ List.length s.1 = N0) hl0 ⟨.eq (by kernel_rfl), hO, hN⟩ ?_
    clear hO hN
    rintro k0 s out1 T H ⟨hT, hO, hN⟩ h1 ho0
    obtain ⟨aA, i10⟩ := s
    replace h1 : dX bN lo7 aA i10 = some out1 := h1
    try dsimp only at hT
    refine bH hT ?_
    clear hT
    unfold dX at h1
    refine aN ?_
    refine aW aD 2 [] [(30, (aC (decide ((0 : Int) ≤ i10))))] ?_
    refine bO h1 (fun h1 => ?_) (fun h1 => ?_)
    · refine bQ ?_
      refine bB [(0, (.msl 1 lo0p 0 (List.length aA))), (6, (eI bN)), (7, (eI lo7)), (10, (eI i10))] ?_
      refine aN ?_
      refine cB 3 ?_
      refine aN ?_
      refine fX (gC []) aD 20 ?_
      obtain ⟨c2, h1⟩ := aZ h1
      refine cD 11 [0 ≤ (wR (bN + i10)) ∧ (wR (bN + i10)) < (lN aA)] ⟨c2, trivial⟩ ?_
      refine gZ 0 lo0p 1 (0 + Int.toNat (wR (bN + i10))) (eI (gD aA (wR (bN + i10)))) (eI (gD aA (wR (bN + i10)))) (List.map (eI) aA) hO (bV c2) ?_
      obtain ⟨c3, h1⟩ := aZ h1
      refine cD 15 [0 ≤ bN ∧ bN < (lN aA)] ⟨c3, trivial⟩ ?_
      refine gZ 0 lo0p 1 (0 + Int.toNat bN) (eI (gD aA bN)) (eI (gD aA bN)) (List.map (eI) aA) hO (bV c3) ?_
      obtain ⟨c4, h1⟩ := aZ h1
      refine cD 17 [0 ≤ bN ∧ bN < (lN aA)] ⟨c4, trivial⟩ ?_
      refine kO 0 lo0p 1 (0 + Int.toNat bN) (eI (gD aA bN)) (eI (gD aA (wR (bN + i10)))) (List.map (eI) aA) [(lo0p, 1, List.map (eI) (List.set aA (Int.toNat bN) (gD aA (wR (bN + i10)))))] hO (bV c4) (by simp only [List.set, iA]) ?_
      intro H hO
      replace hN : List.length (List.set aA (Int.toNat bN) (gD aA (wR (bN + i10)))) = N0 := by simpa using hN
      obtain ⟨c5, h1⟩ := aZ h1
      refine cD 19 [0 ≤ (wR (bN + i10)) ∧ (wR (bN + i10)) < (lN aA)] ⟨c5, trivial⟩ ?_
      refine kO 0 lo0p 1 (0 + Int.toNat (wR (bN + i10))) (eI (gD (List.set aA (Int.toNat bN) (gD aA (wR (bN + i10)))) (wR (bN + i10)))) (eI (gD aA bN)) (List.map (eI) (List.set aA (Int.toNat bN) (gD aA (wR (bN + i10))))) [(lo0p, 1, List.map (eI) (List.set (List.set aA (Int.toNat bN) (gD aA (wR (bN + i10)))) (Int.toNat (wR (bN + i10))) (gD aA bN)))] hO (mJ c5 (by simp [])) (by simp only [List.set, iA]) ?_
      intro H hO
      replace hN : List.length (List.set (List.set aA (Int.toNat bN) (gD aA (wR (bN + i10)))) (Int.toNat (wR (bN + i10))) (gD aA bN)) = N0 := by simpa using hN
      refine mZ (by kernel_rfl) ?_
      refine eB (l := [(0, (.msl 1 lo0p 0 (List.length (List.set (List.set aA (Int.toNat bN) (gD aA (wR (bN + i10)))) (Int.toNat (wR (bN + i10))) (gD aA bN))))), (6, (eI bN)), (7, (eI lo7)), (10, (eI i10))]) ⟨[(0, (.msl 1 lo0p 0 (List.length aA))), (6, (eI bN)), (7, (eI lo7)), (10, (eI i10))], by kernel_rfl, rfl, ⟨aO.eq (by simp []), aO.refl _, aO.refl _, aO.refl _, trivial⟩⟩ ?_
      refine aG (aH (?_))
      refine aU aD 5 ?_
      refine bK 4 ?_
      obtain ⟨x6, hx7, h1⟩ := aV h1
      refine wS [(lo0p, 1, List.map (eI) x6)] 0 (pS lo0p (List.set (List.set aA (Int.toNat bN) (gD aA (wR (bN + i10)))) (Int.toNat (wR (bN + i10))) (gD aA bN)) lo7 i10 bN _ hx7) hO ?_
      intro H hO hl8
      simp only [List.length_map] at hl8
      replace hN := hl8.trans hN
      refine dJ ?_
      refine eB (l := [(0, (.msl 1 lo0p 0 (List.length x6))), (6, (eI bN)), (7, (eI lo7)), (10, (eI i10))]) ⟨[(0, (.msl 1 lo0p 0 (List.length (List.set (List.set aA (Int.toNat bN) (gD aA (wR (bN + i10)))) (Int.toNat (wR (bN + i10))) (gD aA bN))))), (6, (eI bN)), (7, (eI lo7)), (10, (eI i10))], by kernel_rfl, rfl, ⟨aO.eq (by simp [hl8]), aO.refl _, aO.refl _, aO.refl _, trivial⟩⟩ ?_
      refine aG (aY (aH (?_)))
      refine aU aD 3 ?_
      refine bA ?_
      exact aG (aH (⟨rfl, _, (oI h1).symm, .eq (by kernel_rfl), hO, hN⟩))
    refine iJ 2 ?_
    obtain rfl := oI h1
    obtain rfl : _ = rr0 := ho0
    replace h0 : some aA = some r := h0
    obtain rfl := oI h0
    exact aG (aX (aX (bX (wD (x := (.tup [])) (by kernel_rfl) (aO.refl _) ⟨rfl, hO.ext, hO.at 0 (by kernel_rfl), by first | rfl | (simp only [List.length_map]; exact hN.trans hN0)⟩))))
  refine aN ?_
  refine aU aD 4 ?_
  obtain ⟨c9, h0⟩ := aZ h0
  refine sW [(2 : Int) ≠ 0] ⟨c9, trivial⟩ ?_
  refine bT [] [(9, (eI (wR (Int.tdiv (wR ((wR (b2 - a1)) - (1 : Int))) (2 : Int)))))] ?_
  refine cB 0 ?_
  refine fH [(0, (.msl 1 lo0p 0 (List.length aA))), (6, (eI a1)), (7, (eI (0 : Int))), (8, (eI (wR (b2 - a1)))), (9, (eI (wR (Int.tdiv (wR ((wR (b2 - a1)) - (1 : Int))) (2 : Int)))))] ?_
  refine fI (fun T H => ∃ aA : List Int, ∃ bN : Int, ∃ lo7 : Int, ∃ hi8 : Int, ∃ i9 : Int, Has T [(0, (.msl 1 lo0p 0 (List.length aA))), (6, (eI bN)), (7, (eI lo7)), (8, (eI hi8)), (9, (eI i9))] ∧ aK ⟨H0, [lo0p], []⟩ H [(lo0p, 1, List.map (eI) aA)] ∧ List.length aA = N0 ∧ kE aA bN lo7 hi8 i9 = some r) ?_ ⟨aA, a1, (0 : Int), wR (b2 - a1), wR (Int.tdiv (wR ((wR (b2 - a1)) - (1 : Int))) (2 : Int)), .eq (by kernel_rfl), hO, hN, h0⟩
  clear hO hN h0
  rintro T H ⟨aA, bN, lo7, hi8, i9, hT, hO, hN, h0⟩
  refine bH hT ?_
  clear hT
  unfold kE at h0
  obtain ⟨rr0, hl0, h0⟩ := aV h0
  refine dM (by kernel_rfl) (fun (s : List Int × Int) T H => Has T [(0, (.msl 1 lo0p 0 (List.length s.1))), (6, (eI bN)), (7, (eI lo7)), (8, (eI hi8)), (9, (eI s.2))] ∧ aK ⟨H0, [lo0p], []⟩ H [(lo0p, 1, List.map (eI) s.1)] ∧ List.length s.1 = N0) hl0 ⟨.eq (by kernel_rfl), hO, hN⟩ ?_
  clear hO hN
  rintro k0 s out1 T H ⟨hT, hO, hN⟩ h1 ho0
  obtain ⟨aA, i9⟩ := s
  replace h1 : dY bN lo7 hi8 aA i9 = some out1 := h1
  try dsimp only at hT
  refine bH hT ?_
  clear hT
  unfold dY at h1
  refine aN ?_
  refine aW aD 2 [] [(19, (aC (decide ((0 : Int) ≤ i9))))] ?_
  refine bO h1 (fun h1 => ?_) (fun h1 => ?_)
  · refine bQ ?_
    refine bB [(0, (.msl 1 lo0p 0 (List.length aA))), (6, (eI bN)), (7, (eI lo7)), (8, (eI hi8)), (9, (eI i9))] ?_
    refine aN ?_
    refine cB 1 ?_
    refine aU aD 5 ?_
    refine bK 4 ?_
    obtain ⟨x11, hx12, h1⟩ := aV h1
    refine wS [(lo0p, 1, List.map (eI) x11)] 0 (pS lo0p aA i9 hi8 bN _ hx12) hO ?_
    intro H hO hl13
    simp only [List.length_map] at hl13
    replace hN := hl13.trans hN
    refine dJ ?_
    refine eB (l := [(0, (.msl 1 lo0p 0 (List.length x11))), (6, (eI bN)), (7, (eI lo7)), (8, (eI hi8)), (9, (eI i9))]) ⟨[(0, (.msl 1 lo0p 0 (List.length aA))), (6, (eI bN)), (7, (eI lo7)), (8, (eI hi8)), (9, (eI i9))], by kernel_rfl, rfl, ⟨aO.eq (by simp [hl13]), aO.refl _, aO.refl _, aO.refl _, aO.refl _, trivial⟩⟩ ?_
    refine aG (aY (aH (?_)))
    refine aU aD 3 ?_
    refine bA ?_
    exact aG (aH (⟨rfl, _, (oI h1).symm, .eq (by kernel_rfl), hO, hN⟩))
  refine iJ 0 ?_
  obtain rfl := oI h1
  obtain rfl : _ = rr0 := ho0
  replace h0 : iY aA bN lo7 hi8 = some r := h0
  exact aG (aX (aX (bX (aH (⟨rfl, _, _, _, _, .eq (by kernel_rfl), hO, hN, h0⟩)))))

theorem zY (BD : Int) (r : Int) (h0 : kT BD = some r) : dG Try.prog 101 [(eI BD)] (cQ .u64 r) := by
  intro H0
  refine dF Try.func101 ?_
  have hO := aK.start H0
  unfold kT at h0
  refine aW aD 1 [] [] ?_
  refine aN ?_
  refine aU aD 5 ?_
  refine bK 2 ?_
  obtain ⟨x1, hx2, h0⟩ := aV h0
  refine dU (AE (IntKind.u64.wrap BD) _ hx2) hO ?_
  intro H hO
  obtain ⟨c4, h0⟩ := aZ h0
  refine sW [0 ≤ x1] ⟨c4, trivial⟩ ?_
  refine bB [(2, (cQ .u64 (IntKind.u64.wrap ((1 : Int) * 2 ^ (min (Int.toNat x1) 64)))))] ?_
  refine bI ?_
  obtain rfl := oI h0
  exact aG (Q_r hO)

theorem AV (lo0p : Nat) (r0 : Int) (r : (Int × Int)) (h0 : lE r0 = some r) : yH Try.prog 102 [(.lp lo0p 0 0)] [(lo0p, 1, [(cQ .u64 r0)])] (fun x L => x = (cQ .u64 r.1) ∧ L = [(lo0p, 1, [(cQ .u64 r.2)])]) := by
  intro F H0 hO
  obtain ⟨Fh, Fe, Fg⟩ := F
  refine dF Try.func102 ?_
  unfold lE at h0
  refine aW aD 1 [] [] ?_
  refine aN ?_
  refine fX (gC []) aD 10 ?_
  refine lT 2 ?_
  refine gZ 0 lo0p 1 0 (cQ .u64 r0) (cQ .u64 r0) [(cQ .u64 r0)] hO rfl ?_
  refine lT 5 ?_
  refine gZ 0 lo0p 1 0 (cQ .u64 r0) (cQ .u64 r0) [(cQ .u64 r0)] hO rfl ?_
  obtain ⟨c1, h0⟩ := aZ h0
  refine cD 9 [0 ≤ (13 : Int)] ⟨c1, trivial⟩ ?_
  refine kO 0 lo0p 1 0 (cQ .u64 r0) (cQ .u64 (bM .xor .u64 r0 (IntKind.u64.wrap (r0 * 2 ^ (min (Int.toNat (13 : Int)) 64))))) [(cQ .u64 r0)] [(lo0p, 1, [(cQ .u64 (bM .xor .u64 r0 (IntKind.u64.wrap (r0 * 2 ^ (min (Int.toNat (13 : Int)) 64)))))])] hO rfl (by kernel_rfl) ?_
  intro H hO
  refine mZ (by kernel_rfl) ?_
  refine bT [] [] ?_
  refine aN ?_
  refine fX (gC []) aD 10 ?_
  refine lT 2 ?_
  refine gZ 0 lo0p 1 0 (cQ .u64 (bM .xor .u64 r0 (IntKind.u64.wrap (r0 * 2 ^ (min (Int.toNat (13 : Int)) 64))))) (cQ .u64 (bM .xor .u64 r0 (IntKind.u64.wrap (r0 * 2 ^ (min (Int.toNat (13 : Int)) 64))))) [(cQ .u64 (bM .xor .u64 r0 (IntKind.u64.wrap (r0 * 2 ^ (min (Int.toNat (13 : Int)) 64)))))] hO rfl ?_
  refine lT 5 ?_
  refine gZ 0 lo0p 1 0 (cQ .u64 (bM .xor .u64 r0 (IntKind.u64.wrap (r0 * 2 ^ (min (Int.toNat (13 : Int)) 64))))) (cQ .u64 (bM .xor .u64 r0 (IntKind.u64.wrap (r0 * 2 ^ (min (Int.toNat (13 : Int)) 64))))) [(cQ .u64 (bM .xor .u64 r0 (IntKind.u64.wrap (r0 * 2 ^ (min (Int.toNat (13 : Int)) 64)))))] hO rfl ?_
  obtain ⟨c2, h0⟩ := aZ h0
  refine cD 9 [0 ≤ (7 : Int)] ⟨c2, trivial⟩ ?_
  refine kO 0 lo0p 1 0 (cQ .u64 (bM .xor .u64 r0 (IntKind.u64.wrap (r0 * 2 ^ (min (Int.toNat (13 : Int)) 64))))) (cQ .u64 (bM .xor .u64 (bM .xor .u64 r0 (IntKind.u64.wrap (r0 * 2 ^ (min (Int.toNat (13 : Int)) 64)))) (Int.fdiv (bM .xor .u64 r0 (IntKind.u64.wrap (r0 * 2 ^ (min (Int.toNat (13 : Int)) 64)))) (2 ^ (min (Int.toNat (7 : Int)) 64))))) [(cQ .u64 (bM .xor .u64 r0 (IntKind.u64.wrap (r0 * 2 ^ (min (Int.toNat (13 : Int)) 64)))))] [(lo0p, 1, [(cQ .u64 (bM .xor .u64 (bM .xor .u64 r0 (IntKind.u64.wrap (r0 * 2 ^ (min (Int.toNat (13 : Int)) 64)))) (Int.fdiv (bM .xor .u64 r0 (IntKind.u64.wrap (r0 * 2 ^ (min (Int.toNat (13 : Int)) 64)))) (2 ^ (min (Int.toNat (7 : Int)) 64)))))])] hO rfl (by kernel_rfl) ?_
  intro H hO
  refine mZ (by kernel_rfl) ?_
  refine bT [] [] ?_
  refine aN ?_
  refine fX (gC []) aD 10 ?_
  refine lT 2 ?_
  refine gZ 0 lo0p 1 0 (cQ .u64 (bM .xor .u64 (bM .xor .u64 r0 (IntKind.u64.wrap (r0 * 2 ^ (min (Int.toNat (13 : Int)) 64)))) (Int.fdiv (bM .xor .u64 r0 (IntKind.u64.wrap (r0 * 2 ^ (min (Int.toNat (13 : Int)) 64)))) (2 ^ (min (Int.toNat (7 : Int)) 64))))) (cQ .u64 (bM .xor .u64 (bM .xor .u64 r0 (IntKind.u64.wrap (r0 * 2 ^ (min (Int.toNat (13 : Int)) 64)))) (Int.fdiv (bM .xor .u64 r0 (IntKind.u64.wrap (r0 * 2 ^ (min (Int.toNat (13 : Int)) 64)))) (2 ^ (min (Int.toNat (7 : Int)) 64))))) [(cQ .u64 (bM .xor .u64 (bM .xor .u64 r0 (IntKind.u64.wrap (r0 * 2 ^ (min (Int.toNat (13 : Int)) 64)))) (Int.fdiv (bM .xor .u64 r0 (IntKind.u64.wrap (r0 * 2 ^ (min (Int.toNat (13 : Int)) 64)))) (2 ^ (min (Int.toNat (7 : Int)) 64)))))] hO rfl ?_
  refine lT 5 ?_
  refine gZ 0 lo0p 1 0 (cQ .u64 (bM .xor .u64 (bM .xor .u64 r0 (IntKind.u64.wrap (r0 * 2 ^ (min (Int.toNat (13 : Int)) 64)))) (Int.fdiv (bM .xor .u64 r0 (IntKind.u64.wrap (r0 * 2 ^ (min (Int.toNat (13 : Int)) 64)))) (2 ^ (min (Int.toNat (7 : Int)) 64))))) (cQ .u64 (bM .xor .u64 (bM .xor .u64 r0 (IntKind.u64.wrap (r0 * 2 ^ (min (Int.toNat (13 : Int)) 64)))) (Int.fdiv (bM .xor .u64 r0 (IntKind.u64.wrap (r0 * 2 ^ (min (Int.toNat (13 : Int)) 64)))) (2 ^ (min (Int.toNat (7 : Int)) 64))))) [(cQ .u64 (bM .xor .u64 (bM .xor .u64 r0 (IntKind.u64.wrap (r0 * 2 ^ (min (Int.toNat (13 : Int)) 64)))) (Int.fdiv (bM .xor .u64 r0 (IntKind.u64.wrap (r0 * 2 ^ (min (Int.toNat (13 : Int)) 64)))) (2 ^ (min (Int.toNat (7 : Int)) 64)))))] hO rfl ?_
  obtain ⟨c3, h0⟩ := aZ h0
  refine cD 9 [0 ≤ (17 : Int)] ⟨c3, trivial⟩ ?_
  refine kO 0 lo0p 1 0 (cQ .u64 (bM .xor .u64 (bM .xor .u64 r0 (IntKind.u64.wrap (r0 * 2 ^ (min (Int.toNat (13 : Int)) 64)))) (Int.fdiv (bM .xor .u64 r0 (IntKind.u64.wrap (r0 * 2 ^ (min (Int.toNat (13 : Int)) 64)))) (2 ^ (min (Int.toNat (7 : Int)) 64))))) (cQ .u64 (bM .xor .u64 (bM .xor .u64 (bM .xor .u64 r0 (IntKind.u64.wrap (r0 * 2 ^ (min (Int.toNat (13 : Int)) 64)))) (Int.fdiv (bM .xor .u64 r0 (IntKind.u64.wrap (r0 * 2 ^ (min (Int.toNat (13 : Int)) 64)))) (2 ^ (min (Int.toNat (7 : Int)) 64)))) (IntKind.u64.wrap ((bM .xor .u64 (bM .xor .u64 r0 (IntKind.u64.wrap (r0 * 2 ^ (min (Int.toNat (13 : Int)) 64)))) (Int.fdiv (bM .xor .u64 r0 (IntKind.u64.wrap (r0 * 2 ^ (min (Int.toNat (13 : Int)) 64)))) (2 ^ (min (Int.toNat (7 : Int)) 64)))) * 2 ^ (min (Int.toNat (17 : Int)) 64))))) [(cQ .u64 (bM .xor .u64 (bM .xor .u64 r0 (IntKind.u64.wrap (r0 * 2 ^ (min (Int.toNat (13 : Int)) 64)))) (Int.fdiv (bM .xor .u64 r0 (IntKind.u64.wrap (r0 * 2 ^ (min (Int.toNat (13 : Int)) 64)))) (2 ^ (min (Int.toNat (7 : Int)) 64)))))] [(lo0p, 1, [(cQ .u64 (bM .xor .u64 (bM .xor .u64 (bM .xor .u64 r0 (IntKind.u64.wrap (r0 * 2 ^ (min (Int.toNat (13 : Int)) 64)))) (Int.fdiv (bM .xor .u64 r0 (IntKind.u64.wrap (r0 * 2 ^ (min (Int.toNat (13 : Int)) 64)))) (2 ^ (min (Int.toNat (7 : Int)) 64)))) (IntKind.u64.wrap ((bM .xor .u64 (bM .xor .u64 r0 (IntKind.u64.wrap (r0 * 2 ^ (min (Int.toNat (13 : Int)) 64)))) (Int.fdiv (bM .xor .u64 r0 (IntKind.u64.wrap (r0 * 2 ^ (min (Int.toNat (13 : Int)) 64)))) (2 ^ (min (Int.toNat (7 : Int)) 64)))) * 2 ^ (min (Int.toNat (17 : Int)) 64)))))])] hO rfl (by kernel_rfl) ?_
  intro H hO
  refine mZ (by kernel_rfl) ?_
  refine bT [] [] ?_
  refine aN ?_
  refine aU aD 4 ?_
  refine bK 2 ?_
  refine lS 0 lo0p 1 0 (cQ .u64 (bM .xor .u64 (bM .xor .u64 (bM .xor .u64 r0 (IntKind.u64.wrap (r0 * 2 ^ (min (Int.toNat (13 : Int)) 64)))) (Int.fdiv (bM .xor .u64 r0 (IntKind.u64.wrap (r0 * 2 ^ (min (Int.toNat (13 : Int)) 64)))) (2 ^ (min (Int.toNat (7 : Int)) 64)))) (IntKind.u64.wrap ((bM .xor .u64 (bM .xor .u64 r0 (IntKind.u64.wrap (r0 * 2 ^ (min (Int.toNat (13 : Int)) 64)))) (Int.fdiv (bM .xor .u64 r0 (IntKind.u64.wrap (r0 * 2 ^ (min (Int.toNat (13 : Int)) 64)))) (2 ^ (min (Int.toNat (7 : Int)) 64)))) * 2 ^ (min (Int.toNat (17 : Int)) 64))))) (cQ .u64 (bM .xor .u64 (bM .xor .u64 (bM .xor .u64 r0 (IntKind.u64.wrap (r0 * 2 ^ (min (Int.toNat (13 : Int)) 64)))) (Int.fdiv (bM .xor .u64 r0 (IntKind.u64.wrap (r0 * 2 ^ (min (Int.toNat (13 : Int)) 64)))) (2 ^ (min (Int.toNat (7 : Int)) 64)))) (IntKind.u64.wrap ((bM .xor .u64 (bM .xor .u64 r0 (IntKind.u64.wrap (r0 * 2 ^ (min (Int.toNat (13 : Int)) 64)))) (Int.fdiv (bM .xor .u64 r0 (IntKind.u64.wrap (r0 * 2 ^ (min (Int.toNat (13 : Int)) 64)))) (2 ^ (min (Int.toNat (7 : Int)) 64)))) * 2 ^ (min (Int.toNat (17 : Int)) 64))))) [(cQ .u64 (bM .xor .u64 (bM .xor .u64 (bM .xor .u64 r0 (IntKind.u64.wrap (r0 * 2 ^ (min (Int.toNat (13 : Int)) 64)))) (Int.fdiv (bM .xor .u64 r0 (IntKind.u64.wrap (r0 * 2 ^ (min (Int.toNat (13 : Int)) 64)))) (2 ^ (min (Int.toNat (7 : Int)) 64)))) (IntKind.u64.wrap ((bM .xor .u64 (bM .xor .u64 r0 (IntKind.u64.wrap (r0 * 2 ^ (min (Int.toNat (13 : Int)) 64)))) (Int.fdiv (bM .xor .u64 r0 (IntKind.u64.wrap (r0 * 2 ^ (min (Int.toNat (13 : Int)) 64)))) (2 ^ (min (Int.toNat (7 : Int)) 64)))) * 2 ^ (min (Int.toNat (17 : Int)) 64)))))] hO rfl ?_
  refine bA ?_
  refine bB [(0, (.lp lo0p 0 0)), (2, (cQ .u64 (bM .xor .u64 (bM .xor .u64 (bM .xor .u64 r0 (IntKind.u64.wrap (r0 * 2 ^ (min (Int.toNat (13 : Int)) 64)))) (Int.fdiv (bM .xor .u64 r0 (IntKind.u64.wrap (r0 * 2 ^ (min (Int.toNat (13 : Int)) 64)))) (2 ^ (min (Int.toNat (7 : Int)) 64)))) (IntKind.u64.wrap ((bM .xor .u64 (bM .xor .u64 r0 (IntKind.u64.wrap (r0 * 2 ^ (min (Int.toNat (13 : Int)) 64)))) (Int.fdiv (bM .xor .u64 r0 (IntKind.u64.wrap (r0 * 2 ^ (min (Int.toNat (13 : Int)) 64)))) (2 ^ (min (Int.toNat (7 : Int)) 64)))) * 2 ^ (min (Int.toNat (17 : Int)) 64))))))] ?_
  refine bI ?_
  obtain rfl := oI h0
  exact aG (EG hO ⟨rfl, rfl⟩)

end Go.Abs
