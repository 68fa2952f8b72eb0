/- What the law HopForgets stands on: the framework, the given functions as plain functions, their walks, and the plain laws; part 3. -/
import Derived.Test.YteecjdpicjpnfaaHopForgetsZ2
set_option linter.unusedSimpArgs false
set_option linter.unusedVariables false
namespace Go.Abs
open Go Go.RowKit
section bundles
variable {β : Type} (sh : Nat → Nat → β → OL)
variable {sh}
theorem QK {k : Int} {x : β} : ∀ {los : List (Nat × Nat)} {m : List (Int × β)}, los.length = m.length → fG m k = some x →
    ∃ a b R, fG (pmM los m) k = some (some a) ∧ (pmL sh los m).Perm (sh a b x ++ R) ∧ Put sh m k a (pmM los m) R
  | [], [], _, h => by cases h
  | [], _ :: _, h, _ => by simp at h
  | _ :: _, [], h, _ => by simp at h
  | q :: los, p :: m, hl, h => by
    rw [fG] at h
    by_cases hk : p.1 = k
    · rw [if_pos hk] at h
      cases h
      refine ⟨q.1, q.2, pmL sh los m, by rw [pmM, fG, if_pos hk], List.Perm.refl _, fun b' p' => ⟨(q.1, b') :: los, ?_, ?_, ?_⟩⟩
      · simp only [gR, if_pos hk]; simpa using hl
      · simp only [gR, if_pos hk]; simp only [pmM, hk]
      · simp only [gR, if_pos hk, pmL]; exact List.Perm.refl _
    · rw [if_neg hk] at h
      obtain ⟨a, b, R, h1, h2, h3⟩ := QK (los := los) (m := m) (by simpa using hl) h
      refine ⟨a, b, sh q.1 q.2 p.2 ++ R, by rw [pmM, fG, if_neg hk, h1], ?_, fun b' p' => ?_⟩
      · rw [pmL]
        refine (List.Perm.append_left _ h2).trans ?_
        rw [← List.append_assoc, ← List.append_assoc]
        exact List.Perm.append_right _ List.perm_append_comm
      · obtain ⟨los', e1, e2, e3⟩ := h3 b' p'
        refine ⟨q :: los', ?_, ?_, ?_⟩
        · simp only [gR, if_neg hk, List.length_cons, e1]
        · simp only [gR, if_neg hk, pmM, e2]
        · simp only [gR, if_neg hk, pmL]
          refine List.Perm.trans ?_ (List.Perm.append_left _ e3)
          rw [← List.append_assoc, ← List.append_assoc]
          exact List.Perm.append_right _ List.perm_append_comm

theorem XF {k : Int} {a : Nat} : ∀ {los : List (Nat × Nat)} {m : List (Int × β)}, los.length = m.length → fG m k = none → Put sh m k a (gR (pmM los m) k (some a)) (pmL sh los m)
  | [], [], _, _ => fun b' p' => ⟨[(a, b')], rfl, rfl, by simp [gR, pmL]⟩
  | [], _ :: _, h, _ => by simp at h
  | _ :: _, [], h, _ => by simp at h
  | q :: los, p :: m, hl, h => by
    rw [fG] at h
    split at h
    · cases h
    · rename_i hk
      intro b' p'
      obtain ⟨los', e1, e2, e3⟩ := XF (a := a) (los := los) (m := m) (by simpa using hl) h b' p'
      refine ⟨q :: los', ?_, ?_, ?_⟩
      · simp only [gR, if_neg hk, List.length_cons, e1]
      · simp only [pmM, gR, if_neg hk, e2]
      · simp only [gR, if_neg hk, pmL]
        refine List.Perm.trans ?_ (List.Perm.append_left _ e3)
        rw [← List.append_assoc, ← List.append_assoc]
        exact List.Perm.append_right _ List.perm_append_comm

theorem xG (A B : OL) : up (A ++ B) = up A ++ up B := by simp [up]

theorem aK.aAQ {H0 : aP} {E : List Nat} {G : Gs} {H : aP} {L R : OL} (h : aK ⟨H0, E, up R ++ G⟩ H L) : aK ⟨H0, E, G⟩ H (R ++ L) := by
  have h1 : aK ⟨H0, E, G⟩ H (L ++ R) := aK.glue (F := ⟨H0, E, G⟩) h
  have h2 := h1.BI
  exact (h2.nN (G' := up (R ++ L) ++ G) (List.Perm.append_right _ (by rw [xG, xG]; exact List.perm_append_comm))).take

theorem aK.aAV {H0 : aP} {E : List Nat} {G : Gs} {H : aP} {L R : OL} (h : aK ⟨H0, E, G⟩ H (R ++ L)) : aK ⟨H0, E, up R ++ G⟩ H L := by
  have h2 := h.BI
  have h3 : aK ⟨H0, E, G⟩ H (L ++ R) := (h2.nN (G' := up (L ++ R) ++ G) (List.Perm.append_right _ (by rw [xG, xG]; exact List.perm_append_comm))).take
  exact aK.part (F := ⟨H0, E, G⟩) h3

theorem aK.VD {H0 : aP} {E : List Nat} {H : aP} {L : OL} : ∀ {G : Gs}, aK ⟨H0, E, G⟩ H L → aK ⟨H0, E, []⟩ H L
  | [], h => h
  | _ :: _, h => aK.VD h.nQ

theorem aK.focus {H0 : aP} {E : List Nat} {G : Gs} {H : aP} {L : OL} {lm : Nat} {los : List (Nat × Nat)} {m : List (Int × β)} {k : Int} {x : β} (h : aK ⟨H0, E, pmG sh lm los m ++ G⟩ H L) (hl : los.length = m.length) (hg : fG m k = some x) :
    ∃ a b R, fG (pmM los m) k = some (some a) ∧ Put sh m k a (pmM los m) R ∧ aK ⟨H0, E, (lm, oZ pN (pmM los m)) :: (up R ++ G)⟩ H (sh a b x ++ L) := by
  obtain ⟨a, b, R, h1, h2, h3⟩ := QK (sh := sh) hl hg
  refine ⟨a, b, R, h1, h3, ?_⟩
  have : (pmG sh lm los m ++ G).Perm (up (sh a b x) ++ ((lm, oZ pN (pmM los m)) :: (up R ++ G))) := by
    unfold pmG
    refine List.Perm.trans ?_ List.perm_middle.symm
    refine List.Perm.cons _ ?_
    rw [← List.append_assoc, ← xG]
    exact List.Perm.append_right _ (h2.map _)
  exact (h.nN this).aAQ

theorem aK.SX {H0 : aP} {E : List Nat} {G : Gs} {H : aP} {L R : OL} {lm a b : Nat} {MM : List (Int × Option Nat)} {m : List (Int × β)} {k : Int} {x : β} (h : aK ⟨H0, E, (lm, oZ pN MM) :: (up R ++ G)⟩ H (sh a b x ++ L)) (hp : Put sh m k a MM R) :
    ∃ los', los'.length = (gR m k x).length ∧ aK ⟨H0, E, pmG sh lm los' (gR m k x) ++ G⟩ H L := by
  obtain ⟨los', e1, e2, e3⟩ := hp b x
  refine ⟨los', e1, ?_⟩
  have h1 := h.aAV
  refine h1.nN ?_
  unfold pmG
  refine List.perm_middle.trans ?_
  rw [e2]
  refine List.Perm.cons _ ?_
  rw [← List.append_assoc, ← xG]
  exact List.Perm.append_right _ (e3.map _)

theorem FE {P : Program} {ro : Option Nat} {N : Nat} {c : Code} {T : Env} {ds : List Nat} {Q : Exit → Env → aP → List Nat → Prop} {α : Type} [Inhabited α] {H0 : aP} {E : List Nat} (k k2 j : Nat) (cs : Nat → β → List V) (rows : β → List α) (e : α → V) (sf : β → V)
    (hsh : ∀ a b p, sh a b p = [(a, k, [.agg (cs b p)]), (b, k2, (rows p).map e)]) (hj : ∀ b p, (cs b p)[j]? = some (.msl k2 b 0 (rows p).length)) (hsf : ∀ b p, V.agg ((cs b p).set j (eL e (rows p))) = sf p) :
    ∀ (m : List (Int × β)) (los : List (Nat × Nat)) {G : Gs} {H : aP} {L : OL}, los.length = m.length → aK ⟨H0, E, up (pmL sh los m) ++ G⟩ H L →
      (∀ H', aK ⟨H0, E, up (pmL (fun a _ p => [(a, k, [sf p])]) los m) ++ G⟩ H' L → AWP P ro N c T H' ds Q) → AWP P ro N c T H ds Q
  | [], [], G, H, L, _, hO, h => h H hO
  | [], _ :: _, _, _, _, hl, _, _ => by simp at hl
  | _ :: _, [], _, _, _, hl, _, _ => by simp at hl
  | p :: m, q :: los, G, H, L, hl, hO, h => by
    rw [pmL, xG, List.append_assoc] at hO
    have h1 := hO.aAQ
    rw [hsh] at h1
    refine RH (e := e) (rows p.2) 0 1 k k2 q.1 q.2 (rows p.2).length j (cs q.2 p.2) ((q.1, k, [sf p.2]) :: L) h1 rfl (hj _ _) rfl rfl rfl (by rw [← hsf q.2 p.2]; rfl) fun H' hO' => ?_
    have h2 := aK.aAV (R := [(q.1, k, [sf p.2])]) (L := L) hO'
    have h3 : aK ⟨H0, E, up (pmL sh los m) ++ (up [(q.1, k, [sf p.2])] ++ G)⟩ H' L := h2.nN (by
      rw [← List.append_assoc, ← List.append_assoc]; exact List.Perm.append_right _ List.perm_append_comm)
    refine FE k k2 j cs rows e sf hsh hj hsf m los (by simpa using hl) h3 fun H'' hO'' => h H'' ?_
    refine hO''.nN ?_
    rw [pmL, xG, ← List.append_assoc]
    exact List.Perm.append_right _ List.perm_append_comm

end bundles
def aAl : V → Option Bool
  | .lit (.pointer none) => some true
  | .lp _ _ _ => some false
  | _ => none

section nils
variable {P : Program} {tt : TT} {N : Nat} {T : Env} {H : aP} {ops : Array Oper} {K : Env → aP → Prop} {i n : Nat}
theorem NT {K : V → aP → Prop} {op : BinOp} {t e u : TypeId} {x y : Operand} {z : V} {b : Bool} (hop : op = .eql ∨ op = .neq) (hu : P.underlying t = some (.pointer e)) (hz : aAl z = some b) (h : K (.lit (.bool (if op = .eql then b else !b))) H) : wE P (.binOp op t x y u) [z, .lit (.pointer none)] H K := by
  intro ro o a g w next R ho hs hx hn
  have r1 := hx.2 0 z (a.eval x) rfl (by simp [Op.operands])
  have r2 := hx.2 1 (.lit (.pointer none)) (a.eval y) rfl (by simp [Op.operands])
  have e2 : a.eval y = .pointer none := r2.kV
  have e1 : ∃ ad, a.eval x = .pointer ad ∧ ad.isNone = b := by
    unfold aAl at hz
    split at hz
    · simp at hz; subst hz; exact ⟨none, r1.kV, rfl⟩
    · simp at hz; subst hz; obtain ⟨_, h2⟩ := r1.lpE; exact ⟨_, h2, rfl⟩
    · cases hz
  obtain ⟨ad, e1, e3⟩ := e1
  have hq : (Op.equal t (.pointer ad) (.pointer none)).run P w = .ok b w := by
    unfold Op.equal Op.maxDepth
    unfold Op.equalIn
    simp only [Sem.run_bind, run_underlying hu, Result.andThen]
    cases ad with
    | none => subst e3; rfl
    | some ad => subst e3; rfl
  have hr : (execOp a.eval o).run P w = .ok (.value (.bool (if op = .eql then b else !b))) w := by
    cases o
    simp only at ho
    subst ho
    rcases hop with rfl | rfl
    · have h1 : (eqGuard .eql t x y (.pointer ad) (.pointer none)).run P w = .ok () w := rfl
      have h2 : (binOp .eql t (.pointer ad) (.pointer none)).run P w = .ok (.bool b) w := by
        simp only [binOp, Sem.run_bind, hq, Result.andThen]; rfl
      simp [execOp, e1, e2, h1, h2, Result.andThen]
    · have h1 : (eqGuard .neq t x y (.pointer ad) (.pointer none)).run P w = .ok () w := rfl
      have h2 : (binOp .neq t (.pointer ad) (.pointer none)).run P w = .ok (.bool (!b)) w := by
        simp only [binOp, Sem.run_bind, hq, Result.andThen]; rfl
      simp [execOp, e1, e2, h1, h2, Result.andThen]
  exact eC (fun c e => by rw [e] at ho; cases ho) hr (hn _ _ _ _ _ h hs (.lit _ rfl) (Ext.refl g w))

def aAP (P : Program) (t : TypeId) : Bool := match P.underlying t with
  | some (.pointer _) => true
  | _ => false

def YL (P : Program) (N : Nat) (ops : Array Oper) (T : Env) (i : Nat) : Option Bool := match gC N ops i with
  | some (.binOp op t x y _) => match aAP P t, cA T [] x, cA T [] y with
    | true, some z, some (.lit (.pointer none)) => match aAl z, op with
      | some b, .eql => some b
      | some b, .neq => some (!b)
      | _, _ => none
    | _, _, _ => none
  | _ => none

theorem OV (b : Bool) (h : RWs P tt N ops (aI (i + 1) n) (T.bP (cI ops i) ([], .lit (.bool b))) H K)
    (hs : aI i n = i :: aI (i + 1) n := by kernel_rfl) (hd : YL P N ops T i = some b := by kernel_rfl) : RWs P tt N ops (aI i n) T H K := by
  unfold YL at hd
  split at hd
  · rename_i op t x y u hp
    split at hd
    · rename_i z hi hx hy
      unfold aAP at hi
      split at hi
      · rename_i e hu
        split at hd
        · rename_i b' hz
          simp at hd; subst hd
          exact tW hs hp (xs := [z, .lit (.pointer none)]) (by simp [Op.operands, gU, hx, hy]) (NT (.inl rfl) hu hz (by simpa using h))
        · rename_i b' hz
          simp at hd; subst hd
          exact tW hs hp (xs := [z, .lit (.pointer none)]) (by simp [Op.operands, gU, hx, hy]) (NT (.inr rfl) hu hz (by simpa using h))
        · cases hd
      · cases hi
    · cases hd
  · cases hd

end nils
theorem SR.aA9 {g : Gh} {w : World} {H : aP} (h : SR g w H) {l : Nat} {s s' : Sp} (hl : H[l]? = some (.raw s)) (hs : ∀ g w b o, s.p g w b o → s'.p g w b o) : SR g w (H.set l (.raw s')) := by
  have hlt : l < H.length := (List.getElem?_eq_some_iff.1 hl).1
  have hat : ∀ l' ob, (H.set l (.raw s'))[l']? = some ob → (l' = l ∧ ob = .raw s') ∨ (l' ≠ l ∧ H[l']? = some ob) := by
    intro l' ob hl'
    rw [List.getElem?_set] at hl'
    split at hl'
    · rename_i heq
      simp [heq ▸ hlt] at hl'
      exact .inl ⟨heq.symm, hl'.symm⟩
    · rename_i hne; exact .inr ⟨fun e => hne e.symm, hl'⟩
  refine { len := by simp [h.len], fxc := h.fxc, nt := ?_, kk := ?_, vec := ?_, raw := ?_, disj := ?_, rawd := ?_ }
  · intro l' k1 es1 hl1
    rcases hat _ _ hl1 with ⟨_, he⟩ | ⟨_, hl2⟩
    · cases he
    · exact h.nt l' k1 es1 hl2
  · intro l' k1 es1 hl1
    rcases hat _ _ hl1 with ⟨_, he⟩ | ⟨_, hl2⟩
    · cases he
    · exact h.kk l' k1 es1 hl2
  · intro l' k1 es1 hl1
    rcases hat _ _ hl1 with ⟨_, he⟩ | ⟨_, hl2⟩
    · cases he
    · exact h.vec l' k1 es1 hl2
  · intro l' s1 hl1
    rcases hat _ _ hl1 with ⟨rfl, he⟩ | ⟨_, hl2⟩
    · cases he
      obtain ⟨o, q1, q2, q3⟩ := h.raw l' _ hl
      exact ⟨o, q1, q2, hs _ _ _ _ q3⟩
    · exact h.raw l' s1 hl2
  · intro a b k1 k2 es1 es2 ha hb2 hne
    rcases hat _ _ ha with ⟨_, he⟩ | ⟨_, ha2⟩
    · cases he
    · rcases hat _ _ hb2 with ⟨_, he⟩ | ⟨_, hb3⟩
      · cases he
      · exact h.disj _ _ _ _ _ _ ha2 hb3 hne
  · intro a b s1 s2 ha hb2 hne
    rcases hat _ _ ha with ⟨rfl, _⟩ | ⟨_, ha2⟩ <;> rcases hat _ _ hb2 with ⟨rfl, _⟩ | ⟨_, hb3⟩
    · exact absurd rfl hne
    · exact h.rawd _ _ _ _ hl hb3 hne
    · exact h.rawd _ _ _ _ ha2 hl hne
    · exact h.rawd _ _ _ _ ha2 hb3 hne

theorem WD {N : Nat} {Q : Exit → Env → aP → List Nat → Prop} {ds : List Nat} {e : Exit} {T : Env} {H H0 : aP} {E : List Nat} {G : Gs} {L : OL} {β : Type} {f : β → V} {m : List (Int × β)} {bs : List Nat} {l clock : Nat} (hO : aK ⟨H0, E, (l, DG f m bs clock) :: G⟩ H L)
    (h : ∀ H', aK ⟨H0, E, (l, oZ f m) :: G⟩ H' L → Cl N Q e T H' ds) : Cl N Q e T H ds :=
  yI (fun g w _ _ hg => ⟨g, ⟨hg.sr.aA9 (hO.gm 0 _ rfl).2 (s' := zB dI (qK f m)) fun _ _ _ _ ⟨es, h1, _, h3, h4, h5⟩ => ⟨es, clock, h1, h3, h4, h5⟩, hg.tr, hg.df, hg.dl, hg.sz⟩, Ext.refl g w⟩) (h _ (hO.mX _))

theorem HD {S β : Type} (g : S → Int → Option S) : ∀ (q : List (Int × β)) (s : S), dF (fun s (x : Int × β) => g s x.1) s q = dF g s (q.map (·.1))
  | [], _ => rfl
  | x :: q, s => by
    simp only [dF, List.map_cons]
    cases g s x.1 with
    | none => rfl
    | some s' => exact HD g q s'

theorem OE {β : Type} : ∀ {los : List (Nat × Nat)} {m : List (Int × β)}, los.length = m.length → (pmM los m).map (·.1) = m.map (·.1)
  | [], [], _ => rfl
  | _ :: _, _ :: _, h => by simp only [pmM, List.map_cons]; rw [OE (by simpa using h)]
  | [], _ :: _, h => by simp at h
  | _ :: _, [], h => by simp at h

theorem aBz {S R β : Type} {g : S → Int → Option S} {after : S → Option R} {s : S} {r : R} {los : List (Nat × Nat)} {m : List (Int × β)} (hl : los.length = m.length) (h : sB (m.map (·.1)) (fun q => (dF g s q).bind after) = some r) :
    sB (pmM los m) (fun q => (dF (fun s (x : Int × Option Nat) => g s x.1) s q).bind after) = some r :=
  LA fun q hq => by
    rw [HD]
    exact MB h _ (by rw [← OE hl]; exact hq.map _)

theorem LC {β : Type} {k : Int} {x : β} : ∀ {m : List (Int × β)}, fG m k = some x → gR m k x = m
  | [], h => by cases h
  | p :: m, h => by
    rw [fG] at h
    by_cases hk : p.1 = k
    · rw [if_pos hk] at h; cases h
      rw [gR, if_pos hk, ← hk]
    · rw [if_neg hk] at h
      simp only [gR, if_neg hk, LC h]

end Go.Abs
namespace Go.Abs
open Go
structure bJ where
  From : Int
  To : Int
  deriving Inhabited, DecidableEq

def JD (x : bJ) : List V := [(cR .i64 x.From)] ++ [(cR .i64 x.To)]

def bX (x : bJ) : V := .agg (JD x)

structure aE where
  Kind : Int
  Num : Int
  Text : ByteArray
  deriving Inhabited, DecidableEq

def FQ (x : aE) : List V := [(cR .i64 x.Kind)] ++ [(cR .i64 x.Num)] ++ [(wH x.Text)]

def aH (x : aE) : V := .agg (FQ x)

structure aL where
  Row : (List aE)
  At : Int
  Net : Int
  deriving Inhabited, DecidableEq

def IM (x : aL) : List V := [(eL aH x.Row)] ++ [(cR .i64 x.At)] ++ [(cR .i64 x.Net)]

def aO (x : aL) : V := .agg (IM x)

structure dR where
  Row : (List aE)
  N : Int
  deriving Inhabited, DecidableEq

def TI (x : dR) : List V := [(eL aH x.Row)] ++ [(cR .i64 x.N)]

def cQ (x : dR) : V := .agg (TI x)

structure aU where
  Span : bJ
  Rows : (List dR)
  deriving Inhabited, DecidableEq

def UD (x : aU) : List V := JD x.Span ++ [(eL cQ x.Rows)]

def aT (x : aU) : V := .agg (UD x)

structure aB where
  At : Int
  Net : Int
  deriving Inhabited, DecidableEq

def UL (x : aB) : List V := [(cR .i64 x.At)] ++ [(cR .i64 x.Net)]

def aG (x : aB) : V := .agg (UL x)

inductive bH where
  | none_
  | k_number (x : Int)
  | k_words (x : ByteArray)
  deriving DecidableEq

instance : Inhabited bH := ⟨.none_⟩

def bB : bH → V
  | .none_ => .lit .nilIface
  | .k_number x => .ifc 134 (cR .i64 x)
  | .k_words x => .ifc 138 (wH x)

noncomputable def pV (iO : Int) (hop1 : Int) : Option Bool :=
  some ((((decide ((1 : Int) ≤ iO)) && (decide (iO ≤ (1099511627776 : Int)))) && (decide ((1 : Int) ≤ hop1))) && (decide (hop1 ≤ (1099511627776 : Int))))

noncomputable def mP (t0 : Int) : Option Bool :=
  some ((decide ((0 : Int) ≤ t0)) && (decide (t0 ≤ (1125899906842624 : Int))))

noncomputable def sJ (q7 : Int) (r8 : Int) : Option (Int × Int × Int) :=
  some (q7, r8, (0 : Int))

noncomputable def tO (a0 : Int) (b1 : Int) : Option (Int × Int × Int) :=
  cond (decide (b1 < (1 : Int)))
  (some ((0 : Int), (0 : Int), (2 : Int)))
  (bG (b1 ≠ 0) <|
  bG (b1 ≠ 0) <|
  cond (decide ((Int.tmod a0 b1) < (0 : Int)))
  (sJ (IntKind.i64.wrap ((IntKind.i64.wrap (Int.tdiv a0 b1)) - (1 : Int))) (IntKind.i64.wrap ((Int.tmod a0 b1) + b1)))
  (sJ (IntKind.i64.wrap (Int.tdiv a0 b1)) (Int.tmod a0 b1)))

noncomputable def oC (hop0 : Int) (n1 : Int) : Option Int :=
  cond (decide (n1 < (0 : Int)))
  (some (0 : Int))
  ((tO n1 hop0).bind fun x2 =>
  some (IntKind.i64.wrap ((IntKind.i64.wrap (x2.1 + (1 : Int))) * hop0)))

noncomputable def sX (iO : Int) (hop1 : Int) (t2 : Int) : Option (Int × Int) :=
  (pV iO hop1).bind fun x1 =>
  cond (!x1)
  (some ((0 : Int), (2 : Int)))
  ((mP t2).bind fun x5 =>
  cond (!x5)
  (some ((0 : Int), (13 : Int)))
  (cond (decide (t2 = (1125899906842624 : Int)))
  (some ((1125899906842624 : Int), (0 : Int)))
  ((oC hop1 (IntKind.i64.wrap (t2 - iO))).bind fun x10 =>
  some (if (1125899906842624 : Int) < x10 then (1125899906842624 : Int) else x10, (0 : Int)))))

noncomputable def pL (iO : Int) (hop1 : Int) (s2 : bJ) (iH : Int) (dJ : Int) : Option ((Int × bJ × Int × Int × Int)) :=
  some (hop1, s2, iO, iH, dJ)

noncomputable def iX {σ : Type} (cK : σ → Int → Option (σ × Bool)) (t1 : Int) (t2 : bJ) (t5 : Int) (sg : σ) (t8 : Int) : Option ((σ × Int) ⊕ (σ ⊕ σ)) :=
  cond (decide (t8 < (if (1125899906842624 : Int) < (if t5 < t2.To then t5 else t2.To) then (1125899906842624 : Int) else (if t5 < t2.To then t5 else t2.To))))
  ((cK sg t8).bind fun x8 =>
  cond (!x8.2)
  (some (.inr (.inr x8.1)))
  (some (.inl (x8.1, IntKind.i64.wrap (t8 + t1)))))
  (some (.inr (.inl sg)))

noncomputable def nK {σ : Type} (cK : σ → Int → Option (σ × Bool)) (sg : σ) (t1 : Int) (t2 : bJ) (t5 : Int) (t8 : Int) : Option σ :=
  (lp (fun s => iX cK t1 t2 t5 s.1 s.2) (sg, t8)).bind (Sum.elim (fun rr => some rr) (fun rr => some rr))

noncomputable def mI {σ : Type} (cK : σ → Int → Option (σ × Bool)) (t1 : Int) (t2 : bJ) (t3 : Int) (t4 : Int) (t5 : Int) (sg0 : σ) : Option σ :=
  (oC t1 (IntKind.i64.wrap (t2.From - t3))).bind fun x1 =>
  (oC t1 (IntKind.i64.wrap (t4 - (1 : Int)))).bind fun x4 =>
  nK cK sg0 t1 t2 t5 (if x4 > x1 then x4 else x1)

noncomputable def lJ (tD : Int) (tJ : bJ) (tG : Int) (tE : Int) (tF : Int) (t10 : (List Int)) (t11 : Int) (iA : List Int) (t51 : Int) : Option (((List Int) × Int × List Int) ⊕ ((List Int) × Int × List Int)) :=
  cond (decide (((List.length iA : Nat) : Int) = (1024 : Int)))
  (some (.inr ([], (7 : Int), iA)))
  (bG ((List.length iA + List.length ([t51])) * 8 ≤ 140737488355328 ∧ List.length iA + List.length ([t51]) ≤ 9223372036854775807) <|
  some (.inl (t10, t11, iA ++ ([t51]))))

noncomputable def uK (t10 : (List Int)) (t11 : Int) (iA : List Int) (tD : Int) (tJ : bJ) (tG : Int) (tE : Int) (tF : Int) : Option ((List Int) × Int) :=
  (mI (fun st t51 => rnd (fun (s : (List Int) × Int × List Int) => lJ tD tJ tG tE tF s.1 s.2.1 s.2.2 t51) st) tD tJ tG tE tF (.inl (t10, t11, iA))).bind (Sum.elim (fun (s : (List Int) × Int × List Int) =>
  (some (s.2.2, (0 : Int))))
  (fun (s : (List Int) × Int × List Int) =>
  (some (s.1, s.2.1))))

noncomputable def sP (iO : Int) (hop1 : Int) (s2 : bJ) (iH : Int) (dJ : Int) : Option ((List Int) × Int) :=
  (pV iO hop1).bind fun x3 =>
  cond (!x3)
  (some ([], (2 : Int)))
  ((mP iH).bind fun x7 =>
  (dG (!(!x7)) (mP dJ)).bind fun x10 =>
  cond ((!x7) || (!x10))
  (some ([], (13 : Int)))
  (cond (((decide (s2.From < (-1 : Int))) || (decide (s2.To ≤ s2.From))) || (decide ((1125899906842624 : Int) < s2.To)))
  (some ([], (14 : Int)))
  ((pL iO hop1 s2 iH dJ).bind fun x17 =>
  uK ([]) 0 ([] : List Int) x17.1 x17.2.1 x17.2.2.1 x17.2.2.2.1 x17.2.2.2.2)))

noncomputable def nR (l0 : (List aL)) : Option ((List aL)) :=
  some l0

noncomputable def gL  : Option Bool :=
  some true

noncomputable def eX (s10 : (List aE)) (s21 : (List aE)) (t12 : Int) (t13 : Int) : Option ((Int) ⊕ (Unit ⊕ Bool)) :=
  cond (decide (t13 < t12))
  (bG (0 ≤ t13 ∧ t13 < ((List.length s10 : Nat) : Int)) <|
  bG (0 ≤ t13 ∧ t13 < ((List.length s21 : Nat) : Int)) <|
  cond (!((decide (((List.getD s10 (Int.toNat t13) default).Kind) = ((List.getD s21 (Int.toNat t13) default).Kind))) && ((decide (((List.getD s10 (Int.toNat t13) default).Num) = ((List.getD s21 (Int.toNat t13) default).Num))) && ((nP ((List.getD s10 (Int.toNat t13) default).Text) ((List.getD s21 (Int.toNat t13) default).Text)) && true))))
  (some (.inr (.inr false)))
  (some (.inl (IntKind.i64.wrap (t13 + (1 : Int))))))
  (some (.inr (.inl ())))

noncomputable def jG (s10 : (List aE)) (s21 : (List aE)) (t12 : Int) (t13 : Int) : Option Bool :=
  (lp (fun s => eX s10 s21 t12 s) t13).bind (Sum.elim (fun rr => gL ) (fun rr => some rr))

noncomputable def jK (s10 : (List aE)) (s21 : (List aE)) : Option Bool :=
  cond (!decide (((List.length s10 : Nat) : Int) = ((List.length s21 : Nat) : Int)))
  (some false)
  (jG s10 s21 ((List.length s10 : Nat) : Int) (0 : Int))

noncomputable def qB (a0 : (List aE)) (b1 : (List aE)) : Option Bool :=
  (jK a0 b1).bind fun x1 =>
  some x1

noncomputable def qF (r0 : (List aE)) : Option (List aE) :=
  bG (0 ≤ ((List.length r0 : Nat) : Int) ∧ (32 : Int) * ((List.length r0 : Nat) : Int) ≤ 281474976710656 ∧ ((List.length r0 : Nat) : Int) ≤ 9223372036854775807) <|
  bG ((List.length ([] : List aE) + List.length r0) * 32 ≤ 140737488355328 ∧ List.length ([] : List aE) + List.length r0 ≤ 9223372036854775807) <|
  some (([] : List aE) ++ r0)

noncomputable def nY {σ : Type} (cK : σ → (List aE) → (List aB) → Option (σ × Bool)) (sg : σ) (t1 : (List aL)) (i3 : Int) (r4 : (List aE)) (f5 : List aB) : Option ((σ × Int) ⊕ (σ ⊕ σ)) :=
  (qF r4).bind fun x7 =>
  (cK sg x7 f5).bind fun x10 =>
  cond (!x10.2)
  (some (.inr (.inr x10.1)))
  (some (.inl (x10.1, i3)))

noncomputable def jL {σ : Type} (cK : σ → (List aE) → (List aB) → Option (σ × Bool)) (t1 : (List aL)) (r4 : (List aE)) (sg : σ) (i3 : Int) (f5 : List aB) : Option ((σ × Int × List aB) ⊕ ((σ × Int × List aB))) :=
  bG ((((decide (i3 < ((List.length t1 : Nat) : Int)))) = true → 0 ≤ i3 ∧ i3 < ((List.length t1 : Nat) : Int))) <|
  (dG (decide (i3 < ((List.length t1 : Nat) : Int))) (qB ((List.getD t1 (Int.toNat i3) default).Row) r4)).bind fun x16 =>
  cond ((decide (i3 < ((List.length t1 : Nat) : Int))) && x16)
  (bG (0 ≤ i3 ∧ i3 < ((List.length t1 : Nat) : Int)) <|
  bG (0 ≤ i3 ∧ i3 < ((List.length t1 : Nat) : Int)) <|
  bG ((List.length f5 + List.length ([aB.mk ((List.getD t1 (Int.toNat i3) default).At) ((List.getD t1 (Int.toNat i3) default).Net)])) * 16 ≤ 140737488355328 ∧ List.length f5 + List.length ([aB.mk ((List.getD t1 (Int.toNat i3) default).At) ((List.getD t1 (Int.toNat i3) default).Net)]) ≤ 9223372036854775807) <|
  some (.inl (sg, IntKind.i64.wrap (i3 + (1 : Int)), f5 ++ ([aB.mk ((List.getD t1 (Int.toNat i3) default).At) ((List.getD t1 (Int.toNat i3) default).Net)]))))
  (some (.inr (sg, i3, f5)))

noncomputable def qG {σ : Type} (cK : σ → (List aE) → (List aB) → Option (σ × Bool)) (sg : σ) (t1 : (List aL)) (i3 : Int) (r4 : (List aE)) (f5 : List aB) : Option ((σ × Int) ⊕ (σ ⊕ σ)) :=
  (lp (fun s => jL cK t1 r4 s.1 s.2.1 s.2.2) (sg, i3, f5)).bind (fun rr => nY cK rr.1 t1 rr.2.1 r4 rr.2.2)

noncomputable def iL {σ : Type} (cK : σ → (List aE) → (List aB) → Option (σ × Bool)) (t1 : (List aL)) (sg : σ) (i3 : Int) : Option ((σ × Int) ⊕ (σ ⊕ σ)) :=
  cond (decide (i3 < ((List.length t1 : Nat) : Int)))
  (bG (0 ≤ i3 ∧ i3 < ((List.length t1 : Nat) : Int)) <|
  qG cK sg t1 i3 ((List.getD t1 (Int.toNat i3) default).Row) ([] : List aB))
  (some (.inr (.inl sg)))

noncomputable def qA {σ : Type} (cK : σ → (List aE) → (List aB) → Option (σ × Bool)) (sg : σ) (t1 : (List aL)) (i3 : Int) : Option σ :=
  (lp (fun s => iL cK t1 s.1 s.2) (sg, i3)).bind (Sum.elim (fun rr => some rr) (fun rr => some rr))

noncomputable def lU {σ : Type} (cK : σ → (List aE) → (List aB) → Option (σ × Bool)) (t1 : (List aL)) (sg0 : σ) : Option σ :=
  qA cK sg0 t1 (0 : Int)

noncomputable def fE (f1 : aE → Option Bool)  : Option Int :=
  some (-1 : Int)

noncomputable def iC (f1 : aE → Option Bool) (s0 : (List aE)) (t7 : Int) (t8 : Int) : Option ((Int) ⊕ (Unit ⊕ Int)) :=
  cond (decide (t8 < t7))
  (bG (0 ≤ t8 ∧ t8 < ((List.length s0 : Nat) : Int)) <|
  (f1 (List.getD s0 (Int.toNat t8) default)).bind fun x3 =>
  cond x3
  (some (.inr (.inr t8)))
  (some (.inl (IntKind.i64.wrap (t8 + (1 : Int))))))
  (some (.inr (.inl ())))

noncomputable def iB (f1 : aE → Option Bool) (s0 : (List aE)) (t7 : Int) (t8 : Int) : Option Int :=
  (lp (fun s => iC f1 s0 t7 s) t8).bind (Sum.elim (fun rr => fE f1 ) (fun rr => some rr))

noncomputable def iF (s0 : (List aE)) (f1 : aE → Option Bool) : Option Int :=
  iB f1 s0 ((List.length s0 : Nat) : Int) (0 : Int)

noncomputable def eV (s0 : (List aE)) (f1 : aE → Option Bool) : Option Bool :=
  (iF s0 f1).bind fun x1 =>
  some (decide ((0 : Int) ≤ x1))

noncomputable def lF (v0 : aE) : Option (bH × Bool) :=
  cond ((decide (v0.Kind = (1 : Int))) && (nP v0.Text (⟨#[]⟩ : ByteArray)))
  (some (bH.k_number v0.Num, true))
  (cond (((decide (v0.Kind = (2 : Int))) && (decide (v0.Num = (0 : Int)))) && (decide (((ByteArray.size v0.Text : Nat) : Int) ≤ (64 : Int))))
  (some (bH.k_words v0.Text, true))
  (some (bH.none_, false)))

noncomputable def tX (v0 : aE) : Option Bool :=
  (lF v0).bind fun (x1_0, x1_1) =>
  match x1_0 with
  | .none_ => (some x1_1)
  | .k_number y4 => (some x1_1)
  | .k_words y5 => (some x1_1)

noncomputable def tZ (v0 : aE) : Option Bool :=
  (tX v0).bind fun x1 =>
  some (!x1)

noncomputable def sV (r0 : (List aE)) : Option Bool :=
  cond (decide ((8 : Int) < ((List.length r0 : Nat) : Int)))
  (some false)
  ((eV r0 (fun y0 => tZ y0)).bind fun x2 =>
  some (!x2))

noncomputable def rV (t0 : (List aE)) : Option ((Int × (List aE))) :=
  some ((-1 : Int), t0)

noncomputable def eW {σ : Type} (f1 : σ → aE → Option (σ × Bool)) (sg : σ) : Option (σ × Int) :=
  some (sg, (-1 : Int))

noncomputable def cB {σ : Type} (f1 : σ → aE → Option (σ × Bool)) (s0 : (List aE)) (t7 : Int) (sg : σ) (t8 : Int) : Option ((σ × Int) ⊕ (σ ⊕ (σ × Int))) :=
  cond (decide (t8 < t7))
  (bG (0 ≤ t8 ∧ t8 < ((List.length s0 : Nat) : Int)) <|
  (f1 sg (List.getD s0 (Int.toNat t8) default)).bind fun x3 =>
  cond x3.2
  (some (.inr (.inr (x3.1, t8))))
  (some (.inl (x3.1, IntKind.i64.wrap (t8 + (1 : Int))))))
  (some (.inr (.inl sg)))

noncomputable def gT {σ : Type} (f1 : σ → aE → Option (σ × Bool)) (sg : σ) (s0 : (List aE)) (t7 : Int) (t8 : Int) : Option (σ × Int) :=
  (lp (fun s => cB f1 s0 t7 s.1 s.2) (sg, t8)).bind (Sum.elim (fun rr => eW f1 rr) (fun rr => some (rr.1, rr.2)))

noncomputable def gY {σ : Type} (s0 : (List aE)) (f1 : σ → aE → Option (σ × Bool)) (sg0 : σ) : Option (σ × Int) :=
  gT f1 sg0 s0 ((List.length s0 : Nat) : Int) (0 : Int)

noncomputable def jR (v0 : aE) (t1 : Int) (t2 : (List aE)) : Option (Bool × Int) :=
  bG (0 ≤ (IntKind.i64.wrap (t1 + (1 : Int))) ∧ (IntKind.i64.wrap (t1 + (1 : Int))) < ((List.length t2 : Nat) : Int)) <|
  some ((!((decide (v0.Kind = ((List.getD t2 (Int.toNat (IntKind.i64.wrap (t1 + (1 : Int)))) default).Kind))) && ((decide (v0.Num = ((List.getD t2 (Int.toNat (IntKind.i64.wrap (t1 + (1 : Int)))) default).Num))) && ((nP v0.Text ((List.getD t2 (Int.toNat (IntKind.i64.wrap (t1 + (1 : Int)))) default).Text)) && true)))), (IntKind.i64.wrap (t1 + (1 : Int))))

noncomputable def kX (x0 : Int) : Option Bool :=
  some (!decide (x0 = x0))

noncomputable def nL (x0 : Int) (y1 : Int) : Option Int :=
  (kX x0).bind fun x1 =>
  (kX y1).bind fun x4 =>
  cond x1
  (cond x4
  (some (0 : Int))
  (some (-1 : Int)))
  (cond x4
  (some (1 : Int))
  (cond (decide (x0 < y1))
  (some (-1 : Int))
  (cond (decide (y1 < x0))
  (some (1 : Int))
  (some (0 : Int)))))

noncomputable def kL (x0 : Int) : Option Bool :=
  some (!decide (x0 = x0))

noncomputable def fP (x0 : Int) (y1 : Int) : Option Int :=
  (kL x0).bind fun x1 =>
  (kL y1).bind fun x4 =>
  cond x1
  (cond x4
  (some (0 : Int))
  (some (-1 : Int)))
  (cond x4
  (some (1 : Int))
  (cond (decide (x0 < y1))
  (some (-1 : Int))
  (cond (decide (y1 < x0))
  (some (1 : Int))
  (some (0 : Int)))))

noncomputable def jJ (a0 : ByteArray) (b1 : ByteArray) : Option Int :=
  some (JH a0 b1)

noncomputable def mA (a0 : ByteArray) (b1 : ByteArray) : Option Int :=
  (jJ a0 b1).bind fun x1 =>
  some x1

noncomputable def oO (a0 : aE) (b1 : aE) : Option Int :=
  (lF a0).bind fun (x1_0, x1_1) =>
  match x1_0 with
  | .none_ => ((lF b1).bind fun (x6_0, x6_1) =>
  match x6_0 with
  | .none_ => (cond ((!x1_1) || (!x6_1))
  (some (0 : Int))
  (none))
  | .k_number y9 => (cond ((!x1_1) || (!x6_1))
  (some (0 : Int))
  (some (1 : Int)))
  | .k_words y10 => (cond ((!x1_1) || (!x6_1))
  (some (0 : Int))
  (none)))
  | .k_number y4 => ((lF b1).bind fun (x23_0, x23_1) =>
  match x23_0 with
  | .none_ => (cond ((!x1_1) || (!x23_1))
  (some (0 : Int))
  (some (-1 : Int)))
  | .k_number y26 => (cond ((!x1_1) || (!x23_1))
  (some (0 : Int))
  ((fP y4 y26).bind fun x33 =>
  some x33))
  | .k_words y27 => (cond ((!x1_1) || (!x23_1))
  (some (0 : Int))
  (some (-1 : Int))))
  | .k_words y5 => ((lF b1).bind fun (x39_0, x39_1) =>
  match x39_0 with
  | .none_ => (cond ((!x1_1) || (!x39_1))
  (some (0 : Int))
  (none))
  | .k_number y42 => (cond ((!x1_1) || (!x39_1))
  (some (0 : Int))
  (some (1 : Int)))
  | .k_words y43 => (cond ((!x1_1) || (!x39_1))
  (some (0 : Int))
  ((mA y5 y43).bind fun x56 =>
  some x56)))

noncomputable def qV (a0 : (List aE)) (b1 : (List aE)) : Option Int :=
  (sV a0).bind fun x1 =>
  (dG (!(!x1)) (sV b1)).bind fun x4 =>
  cond ((!x1) || (!x4))
  (some (0 : Int))
  (bG (0 ≤ (if ((List.length b1 : Nat) : Int) < ((List.length a0 : Nat) : Int) then ((List.length b1 : Nat) : Int) else ((List.length a0 : Nat) : Int)) ∧ (if ((List.length b1 : Nat) : Int) < ((List.length a0 : Nat) : Int) then ((List.length b1 : Nat) : Int) else ((List.length a0 : Nat) : Int)) ≤ ((List.length a0 : Nat) : Int)) <|
  (rV b1).bind fun x9 =>
  (gY (List.take (Int.toNat (if ((List.length b1 : Nat) : Int) < ((List.length a0 : Nat) : Int) then ((List.length b1 : Nat) : Int) else ((List.length a0 : Nat) : Int))) a0) (fun st y0 => (jR y0 st x9.2).bind fun o => some (o.2, o.1)) x9.1).bind fun x12 =>
  cond (decide (x12.2 < (0 : Int)))
  ((nL ((List.length a0 : Nat) : Int) ((List.length b1 : Nat) : Int)).bind fun x15 =>
  some x15)
  (bG (0 ≤ x12.2 ∧ x12.2 < ((List.length a0 : Nat) : Int)) <|
  bG (0 ≤ x12.2 ∧ x12.2 < ((List.length b1 : Nat) : Int)) <|
  (oO (List.getD a0 (Int.toNat x12.2) default) (List.getD b1 (Int.toNat x12.2) default)).bind fun x20 =>
  some x20))

noncomputable def nZ (sR : (List aB) → Option Bool) (kS : (List aL)) (t4 : Bool) (nO : (List aE)) (jT : Bool) (t14 : (List aE)) (t15 : (List aB)) : Option ((Bool × (List aE) × Bool) ⊕ (Bool × (List aE) × Bool)) :=
  (sV t14).bind fun x7 =>
  (dG (jT && (!(!x7))) (qV nO t14)).bind fun x12 =>
  (dG (!((!x7) || (jT && (decide ((0 : Int) ≤ x12))))) (sR t15)).bind fun x15 =>
  cond (((!x7) || (jT && (decide ((0 : Int) ≤ x12)))) || (!x15))
  (some (.inr (false, nO, jT)))
  (some (.inl (t4, t14, true)))

noncomputable def vC (sR : (List aB) → Option Bool) (t4 : Bool) (nO : (List aE)) (jT : Bool) (kS : (List aL)) : Option Bool :=
  (lU (fun st t14 t15 => rnd (fun (s : Bool × (List aE) × Bool) => nZ sR kS s.1 s.2.1 s.2.2 t14 t15) st) kS (.inl (t4, nO, jT))).bind (Sum.elim (fun (s : Bool × (List aE) × Bool) =>
  (some true))
  (fun (s : Bool × (List aE) × Bool) =>
  (some s.1)))

noncomputable def rG (l0 : (List aL)) (sR : (List aB) → Option Bool) : Option Bool :=
  cond (decide ((4096 : Int) < ((List.length l0 : Nat) : Int)))
  (some false)
  ((nR l0).bind fun x5 =>
  vC sR false ([]) false x5)

noncomputable def xD (n0 : Int) : Option Bool :=
  some ((decide (n0 ≤ (1048576 : Int))) && (decide ((-1048576 : Int) ≤ n0)))

noncomputable def tT  : Option Bool :=
  some true

noncomputable def lS (t9 : (List aB)) (t10 : Int) (pI : Int) (t11 : Int) : Option ((Int × Int) ⊕ (Unit ⊕ Bool)) :=
  cond (decide (t11 < t10))
  (bG (0 ≤ t11 ∧ t11 < ((List.length t9 : Nat) : Int)) <|
  (dG (!(((decide (((List.getD t9 (Int.toNat t11) default).At) ≤ pI)) || (decide ((1125899906842624 : Int) ≤ ((List.getD t9 (Int.toNat t11) default).At)))) || (decide (((List.getD t9 (Int.toNat t11) default).Net) = (0 : Int))))) (xD ((List.getD t9 (Int.toNat t11) default).Net))).bind fun x8 =>
  cond ((((decide (((List.getD t9 (Int.toNat t11) default).At) ≤ pI)) || (decide ((1125899906842624 : Int) ≤ ((List.getD t9 (Int.toNat t11) default).At)))) || (decide (((List.getD t9 (Int.toNat t11) default).Net) = (0 : Int)))) || (!x8))
  (some (.inr (.inr false)))
  (some (.inl ((List.getD t9 (Int.toNat t11) default).At, IntKind.i64.wrap (t11 + (1 : Int))))))
  (some (.inr (.inl ())))

noncomputable def wU (pI : Int) (t9 : (List aB)) (t10 : Int) (t11 : Int) : Option Bool :=
  (lp (fun s => lS t9 t10 s.1 s.2) (pI, t11)).bind (Sum.elim (fun rr => tT ) (fun rr => some rr))

noncomputable def lW (f0 : (List aB)) : Option Bool :=
  cond (decide ((1024 : Int) < ((List.length f0 : Nat) : Int)))
  (some false)
  (wU (-2 : Int) f0 ((List.length f0 : Nat) : Int) (0 : Int))

noncomputable def qJ (l0 : (List aL)) : Option Bool :=
  (rG l0 (fun y0 => lW y0)).bind fun x1 =>
  some x1

noncomputable def qR (gZ : Int) : Option Int :=
  some gZ

noncomputable def mD (t24 : (List aB)) (t25 : Int) (v3 : Int) (gZ : Int) (t26 : Int) : Option ((Int × Int × Int) ⊕ (Int)) :=
  cond (decide (t26 < t25))
  (bG (0 ≤ t26 ∧ t26 < ((List.length t24 : Nat) : Int)) <|
  some (.inl (IntKind.i64.wrap (v3 + ((List.getD t24 (Int.toNat t26) default).Net)), if (IntKind.i64.wrap (v3 + ((List.getD t24 (Int.toNat t26) default).Net))) < gZ then (IntKind.i64.wrap (v3 + ((List.getD t24 (Int.toNat t26) default).Net))) else gZ, IntKind.i64.wrap (t26 + (1 : Int)))))
  (some (.inr gZ))

noncomputable def qT (v3 : Int) (gZ : Int) (t24 : (List aB)) (t25 : Int) (t26 : Int) : Option Int :=
  (lp (fun s => mD t24 t25 s.1 s.2.1 s.2.2) (v3, gZ, t26)).bind (fun rr => qR rr)

noncomputable def oM (f0 : (List aB)) (v3 : Int) (gZ : Int) : Option Int :=
  qT v3 gZ f0 ((List.length f0 : Nat) : Int) (0 : Int)

noncomputable def rY (f0 : (List aB)) : Option Int :=
  (lW f0).bind fun x1 =>
  cond ((!x1) || (decide (((List.length f0 : Nat) : Int) = (0 : Int))))
  (some (0 : Int))
  (bG (0 ≤ (0 : Int) ∧ (0 : Int) < ((List.length f0 : Nat) : Int)) <|
  cond (decide (((List.getD f0 (Int.toNat (0 : Int)) default).At) = (-1 : Int)))
  (bG (0 ≤ (0 : Int) ∧ (0 : Int) < ((List.length f0 : Nat) : Int)) <|
  oM f0 (0 : Int) ((List.getD f0 (Int.toNat (0 : Int)) default).Net))
  (oM f0 (0 : Int) (0 : Int)))

noncomputable def pT (f0 : (List aB)) : Option Bool :=
  (lW f0).bind fun x1 =>
  (dG x1 (rY f0)).bind fun x4 =>
  some (x1 && (decide ((0 : Int) ≤ x4)))

noncomputable def pM (l0 : (List aL)) : Option Bool :=
  (rG l0 (fun y0 => pT y0)).bind fun x1 =>
  some x1

noncomputable def uL (l0 : (List aL)) : Option ((List aL)) :=
  some l0

noncomputable def kN {σ : Type} (cK : σ → (List aE) → (List aB) → Option (σ × Bool)) (t9c0 : (List aL)) (sg : σ) (t10 : (List aE)) (t11 : (List aB)) : Option ((σ) ⊕ (σ)) :=
  (cK sg t10 t11).bind fun x7 =>
  cond (!x7.2)
  (some (.inr x7.1))
  (some (.inl x7.1))

noncomputable def oV {σ : Type} (cK : σ → (List aE) → (List aB) → Option (σ × Bool)) (sg : σ) (t9c0 : (List aL)) : Option σ :=
  (lU (fun st t10 t11 => rnd (fun (s : σ) => kN cK t9c0 s t10 t11) st) t9c0 (.inl sg)).bind (Sum.elim (fun (s : σ) =>
  (some s))
  (fun (s : σ) =>
  (some s)))

noncomputable def nM {σ : Type} (cK : σ → (List aE) → (List aB) → Option (σ × Bool)) (t1 : (List aL)) (sg0 : σ) : Option σ :=
  (qJ t1).bind fun x1 =>
  cond (!x1)
  (some sg0)
  ((nR t1).bind fun x5 =>
  oV cK sg0 x5)

noncomputable def lO (x0 : Int) (n2 : Int) : Option Int :=
  bG (0 ≤ (IntKind.u8.wrap x0) ∧ (IntKind.u8.wrap x0) < ((ByteArray.size (⟨#[0, 1, 2, 2, 3, 3, 3, 3, 4, 4, 4, 4, 4, 4, 4, 4, 5, 5, 5, 5, 5, 5, 5, 5, 5, 5, 5, 5, 5, 5, 5, 5, 6, 6, 6, 6, 6, 6, 6, 6, 6, 6, 6, 6, 6, 6, 6, 6, 6, 6, 6, 6, 6, 6, 6, 6, 6, 6, 6, 6, 6, 6, 6, 6, 7, 7, 7, 7, 7, 7, 7, 7, 7, 7, 7, 7, 7, 7, 7, 7, 7, 7, 7, 7, 7, 7, 7, 7, 7, 7, 7, 7, 7, 7, 7, 7, 7, 7, 7, 7, 7, 7, 7, 7, 7, 7, 7, 7, 7, 7, 7, 7, 7, 7, 7, 7, 7, 7, 7, 7, 7, 7, 7, 7, 7, 7, 7, 7, 8, 8, 8, 8, 8, 8, 8, 8, 8, 8, 8, 8, 8, 8, 8, 8, 8, 8, 8, 8, 8, 8, 8, 8, 8, 8, 8, 8, 8, 8, 8, 8, 8, 8, 8, 8, 8, 8, 8, 8, 8, 8, 8, 8, 8, 8, 8, 8, 8, 8, 8, 8, 8, 8, 8, 8, 8, 8, 8, 8, 8, 8, 8, 8, 8, 8, 8, 8, 8, 8, 8, 8, 8, 8, 8, 8, 8, 8, 8, 8, 8, 8, 8, 8, 8, 8, 8, 8, 8, 8, 8, 8, 8, 8, 8, 8, 8, 8, 8, 8, 8, 8, 8, 8, 8, 8, 8, 8, 8, 8, 8, 8, 8, 8, 8, 8, 8, 8, 8, 8, 8, 8, 8, 8, 8, 8, 8, 8]⟩ : ByteArray) : Nat) : Int)) <|
  some (IntKind.i64.wrap (n2 + (IntKind.i64.wrap (bt (⟨#[0, 1, 2, 2, 3, 3, 3, 3, 4, 4, 4, 4, 4, 4, 4, 4, 5, 5, 5, 5, 5, 5, 5, 5, 5, 5, 5, 5, 5, 5, 5, 5, 6, 6, 6, 6, 6, 6, 6, 6, 6, 6, 6, 6, 6, 6, 6, 6, 6, 6, 6, 6, 6, 6, 6, 6, 6, 6, 6, 6, 6, 6, 6, 6, 7, 7, 7, 7, 7, 7, 7, 7, 7, 7, 7, 7, 7, 7, 7, 7, 7, 7, 7, 7, 7, 7, 7, 7, 7, 7, 7, 7, 7, 7, 7, 7, 7, 7, 7, 7, 7, 7, 7, 7, 7, 7, 7, 7, 7, 7, 7, 7, 7, 7, 7, 7, 7, 7, 7, 7, 7, 7, 7, 7, 7, 7, 7, 7, 8, 8, 8, 8, 8, 8, 8, 8, 8, 8, 8, 8, 8, 8, 8, 8, 8, 8, 8, 8, 8, 8, 8, 8, 8, 8, 8, 8, 8, 8, 8, 8, 8, 8, 8, 8, 8, 8, 8, 8, 8, 8, 8, 8, 8, 8, 8, 8, 8, 8, 8, 8, 8, 8, 8, 8, 8, 8, 8, 8, 8, 8, 8, 8, 8, 8, 8, 8, 8, 8, 8, 8, 8, 8, 8, 8, 8, 8, 8, 8, 8, 8, 8, 8, 8, 8, 8, 8, 8, 8, 8, 8, 8, 8, 8, 8, 8, 8, 8, 8, 8, 8, 8, 8, 8, 8, 8, 8, 8, 8, 8, 8, 8, 8, 8, 8, 8, 8, 8, 8, 8, 8, 8, 8, 8, 8, 8, 8]⟩ : ByteArray) (IntKind.u8.wrap x0)))))

noncomputable def kJ (x0 : Int) (n2 : Int) : Option Int :=
  cond (decide ((256 : Int) ≤ x0))
  (bG (0 ≤ (8 : Int)) <|
  lO (Int.fdiv x0 (2 ^ (min (Int.toNat (8 : Int)) 64))) (IntKind.i64.wrap (n2 + (8 : Int))))
  (lO x0 n2)

noncomputable def kI (x0 : Int) (n2 : Int) : Option Int :=
  cond (decide ((65536 : Int) ≤ x0))
  (bG (0 ≤ (16 : Int)) <|
  kJ (Int.fdiv x0 (2 ^ (min (Int.toNat (16 : Int)) 64))) (IntKind.i64.wrap (n2 + (16 : Int))))
  (kJ x0 n2)

noncomputable def nH (x0 : Int) : Option Int :=
  cond (decide ((4294967296 : Int) ≤ x0))
  (bG (0 ≤ (32 : Int)) <|
  kI (Int.fdiv x0 (2 ^ (min (Int.toNat (32 : Int)) 64))) (32 : Int))
  (kI x0 (0 : Int))

noncomputable def jY (x0 : Int) : Option Int :=
  (nH x0).bind fun x2 =>
  some x2

noncomputable def cY (x0 : Int) (y1 : Int) : Option Bool :=
  (kX x0).bind fun x1 =>
  (dG x1 (kX y1)).bind fun x4 =>
  some ((x1 && (!x4)) || (decide (x0 < y1)))

noncomputable def fZ (aA : List Int) (a1 : Int) (b2 : Int) (i6 : Int) : Option ((List Int × Int) ⊕ ((List Int))) :=
  some (.inl (aA, IntKind.i64.wrap (i6 + (1 : Int))))

noncomputable def eT (a1 : Int) (b2 : Int) (i6 : Int) (aA : List Int) (j7 : Int) : Option ((List Int × Int) ⊕ ((List Int))) :=
  bG ((((decide (a1 < j7))) = true → 0 ≤ j7 ∧ j7 < ((List.length aA : Nat) : Int))) <|
  bG ((((decide (a1 < j7))) = true → 0 ≤ (IntKind.i64.wrap (j7 - (1 : Int))) ∧ (IntKind.i64.wrap (j7 - (1 : Int))) < ((List.length aA : Nat) : Int))) <|
  (dG (decide (a1 < j7)) (cY (List.getD aA (Int.toNat j7) default) (List.getD aA (Int.toNat (IntKind.i64.wrap (j7 - (1 : Int)))) default))).bind fun x4 =>
  cond ((decide (a1 < j7)) && x4)
  (bG (0 ≤ (IntKind.i64.wrap (j7 - (1 : Int))) ∧ (IntKind.i64.wrap (j7 - (1 : Int))) < ((List.length aA : Nat) : Int)) <|
  bG (0 ≤ j7 ∧ j7 < ((List.length aA : Nat) : Int)) <|
  bG (0 ≤ j7 ∧ j7 < ((List.length aA : Nat) : Int)) <|
  bG (0 ≤ (IntKind.i64.wrap (j7 - (1 : Int))) ∧ (IntKind.i64.wrap (j7 - (1 : Int))) < ((List.length aA : Nat) : Int)) <|
  some (.inl (List.set (List.set aA (Int.toNat j7) (List.getD aA (Int.toNat (IntKind.i64.wrap (j7 - (1 : Int)))) default)) (Int.toNat (IntKind.i64.wrap (j7 - (1 : Int)))) (List.getD aA (Int.toNat j7) default), IntKind.i64.wrap (j7 - (1 : Int)))))
  (some (.inr aA))

noncomputable def iY (aA : List Int) (a1 : Int) (b2 : Int) (i6 : Int) (j7 : Int) : Option ((List Int × Int) ⊕ ((List Int))) :=
  (lp (fun s => eT a1 b2 i6 s.1 s.2) (aA, j7)).bind (fun rr => fZ rr a1 b2 i6)

noncomputable def cZ (a1 : Int) (b2 : Int) (aA : List Int) (i6 : Int) : Option ((List Int × Int) ⊕ ((List Int))) :=
  cond (decide (i6 < b2))
  (iY aA a1 b2 i6 i6)
  (some (.inr aA))

noncomputable def iZ (aA : List Int) (a1 : Int) (b2 : Int) (i6 : Int) : Option (List Int) :=
  (lp (fun s => cZ a1 b2 s.1 s.2) (aA, i6)).bind (fun rr => some rr)

noncomputable def gK (aA : (List Int)) (a1 : Int) (b2 : Int) : Option (List Int) :=
  iZ aA a1 b2 (IntKind.i64.wrap (a1 + (1 : Int)))

noncomputable def gG (aA : List Int) (hi2 : Int) (bE : Int) (bZ : Int) (dY : Int) : Option ((List Int × Int) ⊕ ((List Int) ⊕ (List Int))) :=
  bG (0 ≤ (IntKind.i64.wrap (bE + bZ)) ∧ (IntKind.i64.wrap (bE + bZ)) < ((List.length aA : Nat) : Int)) <|
  bG (0 ≤ (IntKind.i64.wrap (bE + dY)) ∧ (IntKind.i64.wrap (bE + dY)) < ((List.length aA : Nat) : Int)) <|
  (cY (List.getD aA (Int.toNat (IntKind.i64.wrap (bE + bZ))) default) (List.getD aA (Int.toNat (IntKind.i64.wrap (bE + dY))) default)).bind fun x4 =>
  cond (!x4)
  (some (.inr (.inr aA)))
  (bG (0 ≤ (IntKind.i64.wrap (bE + dY)) ∧ (IntKind.i64.wrap (bE + dY)) < ((List.length aA : Nat) : Int)) <|
  bG (0 ≤ (IntKind.i64.wrap (bE + bZ)) ∧ (IntKind.i64.wrap (bE + bZ)) < ((List.length aA : Nat) : Int)) <|
  bG (0 ≤ (IntKind.i64.wrap (bE + bZ)) ∧ (IntKind.i64.wrap (bE + bZ)) < ((List.length aA : Nat) : Int)) <|
  bG (0 ≤ (IntKind.i64.wrap (bE + dY)) ∧ (IntKind.i64.wrap (bE + dY)) < ((List.length aA : Nat) : Int)) <|
  some (.inl (List.set (List.set aA (Int.toNat (IntKind.i64.wrap (bE + bZ))) (List.getD aA (Int.toNat (IntKind.i64.wrap (bE + dY))) default)) (Int.toNat (IntKind.i64.wrap (bE + dY))) (List.getD aA (Int.toNat (IntKind.i64.wrap (bE + bZ))) default), dY)))

noncomputable def cW (hi2 : Int) (bE : Int) (aA : List Int) (bZ : Int) : Option ((List Int × Int) ⊕ ((List Int) ⊕ (List Int))) :=
  cond (decide (hi2 ≤ (IntKind.i64.wrap ((IntKind.i64.wrap ((2 : Int) * bZ)) + (1 : Int)))))
  (some (.inr (.inl aA)))
  (bG ((((decide ((IntKind.i64.wrap ((IntKind.i64.wrap ((IntKind.i64.wrap ((2 : Int) * bZ)) + (1 : Int))) + (1 : Int))) < hi2))) = true → 0 ≤ (IntKind.i64.wrap (bE + (IntKind.i64.wrap ((IntKind.i64.wrap ((2 : Int) * bZ)) + (1 : Int))))) ∧ (IntKind.i64.wrap (bE + (IntKind.i64.wrap ((IntKind.i64.wrap ((2 : Int) * bZ)) + (1 : Int))))) < ((List.length aA : Nat) : Int))) <|
  bG ((((decide ((IntKind.i64.wrap ((IntKind.i64.wrap ((IntKind.i64.wrap ((2 : Int) * bZ)) + (1 : Int))) + (1 : Int))) < hi2))) = true → 0 ≤ (IntKind.i64.wrap ((IntKind.i64.wrap (bE + (IntKind.i64.wrap ((IntKind.i64.wrap ((2 : Int) * bZ)) + (1 : Int))))) + (1 : Int))) ∧ (IntKind.i64.wrap ((IntKind.i64.wrap (bE + (IntKind.i64.wrap ((IntKind.i64.wrap ((2 : Int) * bZ)) + (1 : Int))))) + (1 : Int))) < ((List.length aA : Nat) : Int))) <|
  (dG (decide ((IntKind.i64.wrap ((IntKind.i64.wrap ((IntKind.i64.wrap ((2 : Int) * bZ)) + (1 : Int))) + (1 : Int))) < hi2)) (cY (List.getD aA (Int.toNat (IntKind.i64.wrap (bE + (IntKind.i64.wrap ((IntKind.i64.wrap ((2 : Int) * bZ)) + (1 : Int)))))) default) (List.getD aA (Int.toNat (IntKind.i64.wrap ((IntKind.i64.wrap (bE + (IntKind.i64.wrap ((IntKind.i64.wrap ((2 : Int) * bZ)) + (1 : Int))))) + (1 : Int)))) default))).bind fun x14 =>
  cond ((decide ((IntKind.i64.wrap ((IntKind.i64.wrap ((IntKind.i64.wrap ((2 : Int) * bZ)) + (1 : Int))) + (1 : Int))) < hi2)) && x14)
  (gG aA hi2 bE bZ (IntKind.i64.wrap ((IntKind.i64.wrap ((IntKind.i64.wrap ((2 : Int) * bZ)) + (1 : Int))) + (1 : Int))))
  (gG aA hi2 bE bZ (IntKind.i64.wrap ((IntKind.i64.wrap ((2 : Int) * bZ)) + (1 : Int)))))

noncomputable def kF (aA : List Int) (hi2 : Int) (bE : Int) (bZ : Int) : Option (List Int) :=
  (lp (fun s => cW hi2 bE s.1 s.2) (aA, bZ)).bind (Sum.elim (fun rr => some rr) (fun rr => some rr))

noncomputable def eZ (aA : (List Int)) (lo1 : Int) (hi2 : Int) (bE : Int) : Option (List Int) :=
  kF aA hi2 bE lo1

noncomputable def eA (bO : Int) (lo7 : Int) (aA : List Int) (i10 : Int) : Option ((List Int × Int) ⊕ ((List Int))) :=
  cond (decide ((0 : Int) ≤ i10))
  (bG (0 ≤ (IntKind.i64.wrap (bO + i10)) ∧ (IntKind.i64.wrap (bO + i10)) < ((List.length aA : Nat) : Int)) <|
  bG (0 ≤ bO ∧ bO < ((List.length aA : Nat) : Int)) <|
  bG (0 ≤ bO ∧ bO < ((List.length aA : Nat) : Int)) <|
  bG (0 ≤ (IntKind.i64.wrap (bO + i10)) ∧ (IntKind.i64.wrap (bO + i10)) < ((List.length aA : Nat) : Int)) <|
  (eZ (List.set (List.set aA (Int.toNat bO) (List.getD aA (Int.toNat (IntKind.i64.wrap (bO + i10))) default)) (Int.toNat (IntKind.i64.wrap (bO + i10))) (List.getD aA (Int.toNat bO) default)) lo7 i10 bO).bind fun x6 =>
  some (.inl (x6, IntKind.i64.wrap (i10 - (1 : Int)))))
  (some (.inr aA))

noncomputable def kH (aA : List Int) (bO : Int) (lo7 : Int) (i10 : Int) : Option (List Int) :=
  (lp (fun s => eA bO lo7 s.1 s.2) (aA, i10)).bind (fun rr => some rr)

noncomputable def iV (aA : List Int) (bO : Int) (lo7 : Int) (hi8 : Int) : Option (List Int) :=
  kH aA bO lo7 (IntKind.i64.wrap (hi8 - (1 : Int)))

noncomputable def dZ (bO : Int) (lo7 : Int) (hi8 : Int) (aA : List Int) (i9 : Int) : Option ((List Int × Int) ⊕ ((List Int))) :=
  cond (decide ((0 : Int) ≤ i9))
  ((eZ aA i9 hi8 bO).bind fun x11 =>
  some (.inl (x11, IntKind.i64.wrap (i9 - (1 : Int)))))
  (some (.inr aA))

noncomputable def kG (aA : List Int) (bO : Int) (lo7 : Int) (hi8 : Int) (i9 : Int) : Option (List Int) :=
  (lp (fun s => dZ bO lo7 hi8 s.1 s.2) (aA, i9)).bind (fun rr => iV rr bO lo7 hi8)

noncomputable def jC (aA : (List Int)) (a1 : Int) (b2 : Int) : Option (List Int) :=
  bG ((2 : Int) ≠ 0) <|
  kG aA a1 (0 : Int) (IntKind.i64.wrap (b2 - a1)) (IntKind.i64.wrap (Int.tdiv (IntKind.i64.wrap ((IntKind.i64.wrap (b2 - a1)) - (1 : Int))) (2 : Int)))

noncomputable def kT (AR : Int) : Option Int :=
  (jY (IntKind.u64.wrap AR)).bind fun x1 =>
  bG (0 ≤ x1) <|
  some (IntKind.u64.wrap ((1 : Int) * 2 ^ (min (Int.toNat x1) 64)))

noncomputable def lC (r0 : Int) : Option (Int × Int) :=
  bG (0 ≤ (13 : Int)) <|
  bG (0 ≤ (7 : Int)) <|
  bG (0 ≤ (17 : Int)) <|
  some (bM .xor .u64 (bM .xor .u64 (bM .xor .u64 r0 (IntKind.u64.wrap (r0 * 2 ^ (min (Int.toNat (13 : Int)) 64)))) (Int.fdiv (bM .xor .u64 r0 (IntKind.u64.wrap (r0 * 2 ^ (min (Int.toNat (13 : Int)) 64)))) (2 ^ (min (Int.toNat (7 : Int)) 64)))) (IntKind.u64.wrap ((bM .xor .u64 (bM .xor .u64 r0 (IntKind.u64.wrap (r0 * 2 ^ (min (Int.toNat (13 : Int)) 64)))) (Int.fdiv (bM .xor .u64 r0 (IntKind.u64.wrap (r0 * 2 ^ (min (Int.toNat (13 : Int)) 64)))) (2 ^ (min (Int.toNat (7 : Int)) 64)))) * 2 ^ (min (Int.toNat (17 : Int)) 64))), bM .xor .u64 (bM .xor .u64 (bM .xor .u64 r0 (IntKind.u64.wrap (r0 * 2 ^ (min (Int.toNat (13 : Int)) 64)))) (Int.fdiv (bM .xor .u64 r0 (IntKind.u64.wrap (r0 * 2 ^ (min (Int.toNat (13 : Int)) 64)))) (2 ^ (min (Int.toNat (7 : Int)) 64)))) (IntKind.u64.wrap ((bM .xor .u64 (bM .xor .u64 r0 (IntKind.u64.wrap (r0 * 2 ^ (min (Int.toNat (13 : Int)) 64)))) (Int.fdiv (bM .xor .u64 r0 (IntKind.u64.wrap (r0 * 2 ^ (min (Int.toNat (13 : Int)) 64)))) (2 ^ (min (Int.toNat (7 : Int)) 64)))) * 2 ^ (min (Int.toNat (17 : Int)) 64))))

noncomputable def eS (aA : List Int) (a1 : Int) (jP : Int) (lB : Int) (iM : Int) (idx9 : Int) (fI : Int) : Option ((List Int × Int × Int) ⊕ ((List Int))) :=
  bG (0 ≤ (IntKind.i64.wrap (a1 + fI)) ∧ (IntKind.i64.wrap (a1 + fI)) < ((List.length aA : Nat) : Int)) <|
  bG (0 ≤ idx9 ∧ idx9 < ((List.length aA : Nat) : Int)) <|
  bG (0 ≤ idx9 ∧ idx9 < ((List.length aA : Nat) : Int)) <|
  bG (0 ≤ (IntKind.i64.wrap (a1 + fI)) ∧ (IntKind.i64.wrap (a1 + fI)) < ((List.length aA : Nat) : Int)) <|
  some (.inl (List.set (List.set aA (Int.toNat idx9) (List.getD aA (Int.toNat (IntKind.i64.wrap (a1 + fI))) default)) (Int.toNat (IntKind.i64.wrap (a1 + fI))) (List.getD aA (Int.toNat idx9) default), lB, IntKind.i64.wrap (idx9 + (1 : Int))))

noncomputable def cS (a1 : Int) (jP : Int) (iM : Int) (aA : List Int) (lB : Int) (idx9 : Int) : Option ((List Int × Int × Int) ⊕ ((List Int))) :=
  bG ((4 : Int) ≠ 0) <|
  cond (decide (idx9 ≤ (IntKind.i64.wrap ((IntKind.i64.wrap (a1 + (IntKind.i64.wrap ((IntKind.i64.wrap (Int.tdiv jP (4 : Int))) * (2 : Int))))) + (1 : Int)))))
  ((lC lB).bind fun x9 =>
  cond (decide (jP ≤ (IntKind.i64.wrap (bM .and .u64 x9.1 (IntKind.u64.wrap (iM - (1 : Int)))))))
  (eS aA a1 jP x9.2 iM idx9 (IntKind.i64.wrap ((IntKind.i64.wrap (bM .and .u64 x9.1 (IntKind.u64.wrap (iM - (1 : Int))))) - jP)))
  (eS aA a1 jP x9.2 iM idx9 (IntKind.i64.wrap (bM .and .u64 x9.1 (IntKind.u64.wrap (iM - (1 : Int)))))))
  (some (.inr aA))

noncomputable def jA (aA : List Int) (a1 : Int) (jP : Int) (lB : Int) (iM : Int) (idx9 : Int) : Option (List Int) :=
  (lp (fun s => cS a1 jP iM s.1 s.2.1 s.2.2) (aA, lB, idx9)).bind (fun rr => some rr)

noncomputable def gJ (aA : (List Int)) (a1 : Int) (b2 : Int) : Option (List Int) :=
  cond (decide ((8 : Int) ≤ (IntKind.i64.wrap (b2 - a1))))
  ((kT (IntKind.i64.wrap (b2 - a1))).bind fun x3 =>
  bG ((4 : Int) ≠ 0) <|
  jA aA a1 (IntKind.i64.wrap (b2 - a1)) (IntKind.u64.wrap (IntKind.i64.wrap (b2 - a1))) x3 (IntKind.i64.wrap ((IntKind.i64.wrap (a1 + (IntKind.i64.wrap ((IntKind.i64.wrap (Int.tdiv (IntKind.i64.wrap (b2 - a1)) (4 : Int))) * (2 : Int))))) - (1 : Int))))
  (some aA)

noncomputable def fS (aA : (List Int)) (a1 : Int) (b2 : Int) (qZ : Int) : Option ((Int × Int) × Int) :=
  bG (0 ≤ b2 ∧ b2 < ((List.length aA : Nat) : Int)) <|
  bG (0 ≤ a1 ∧ a1 < ((List.length aA : Nat) : Int)) <|
  (cY (List.getD aA (Int.toNat b2) default) (List.getD aA (Int.toNat a1) default)).bind fun x3 =>
  cond x3
  (some ((b2, a1), IntKind.i64.wrap (qZ + (1 : Int))))
  (some ((a1, b2), qZ))

noncomputable def iE (aA : (List Int)) (a1 : Int) (b2 : Int) (c3 : Int) (DB : Int) : Option (Int × Int) :=
  (fS aA a1 b2 DB).bind fun x1 =>
  (fS aA x1.1.2 c3 x1.2).bind fun x6 =>
  (fS aA x1.1.1 x6.1.1 x6.2).bind fun x11 =>
  some (x11.1.2, x11.2)

noncomputable def dS (aA : (List Int)) (a1 : Int) (DM : Int) : Option (Int × Int) :=
  (iE aA (IntKind.i64.wrap (a1 - (1 : Int))) a1 (IntKind.i64.wrap (a1 + (1 : Int))) DM).bind fun x1 =>
  some (x1.1, x1.2)

noncomputable def fB (aA : List Int) (lT : Int) (j11 : Int) : Option (Int × Int) :=
  cond (decide (lT = (0 : Int)))
  (some (j11, (1 : Int)))
  (cond (decide (lT = (12 : Int)))
  (some (j11, (2 : Int)))
  (some (j11, (0 : Int))))

noncomputable def fA (aA : List Int) (lT : Int) (i10 : Int) (j11 : Int) (k12 : Int) : Option (Int × Int) :=
  (iE aA i10 j11 k12 lT).bind fun x8 =>
  fB aA x8.2 x8.1

noncomputable def hY (aA : (List Int)) (a1 : Int) (b2 : Int) : Option (Int × Int) :=
  bG ((4 : Int) ≠ 0) <|
  bG ((4 : Int) ≠ 0) <|
  bG ((4 : Int) ≠ 0) <|
  cond (decide ((8 : Int) ≤ (IntKind.i64.wrap (b2 - a1))))
  (cond (decide ((50 : Int) ≤ (IntKind.i64.wrap (b2 - a1))))
  ((dS aA (IntKind.i64.wrap (a1 + (IntKind.i64.wrap ((IntKind.i64.wrap (Int.tdiv (IntKind.i64.wrap (b2 - a1)) (4 : Int))) * (1 : Int))))) 0).bind fun x14 =>
  (dS aA (IntKind.i64.wrap (a1 + (IntKind.i64.wrap ((IntKind.i64.wrap (Int.tdiv (IntKind.i64.wrap (b2 - a1)) (4 : Int))) * (2 : Int))))) x14.2).bind fun x19 =>
  (dS aA (IntKind.i64.wrap (a1 + (IntKind.i64.wrap ((IntKind.i64.wrap (Int.tdiv (IntKind.i64.wrap (b2 - a1)) (4 : Int))) * (3 : Int))))) x19.2).bind fun x24 =>
  fA aA x24.2 x14.1 x19.1 x24.1)
  (fA aA 0 (IntKind.i64.wrap (a1 + (IntKind.i64.wrap ((IntKind.i64.wrap (Int.tdiv (IntKind.i64.wrap (b2 - a1)) (4 : Int))) * (1 : Int))))) (IntKind.i64.wrap (a1 + (IntKind.i64.wrap ((IntKind.i64.wrap (Int.tdiv (IntKind.i64.wrap (b2 - a1)) (4 : Int))) * (2 : Int))))) (IntKind.i64.wrap (a1 + (IntKind.i64.wrap ((IntKind.i64.wrap (Int.tdiv (IntKind.i64.wrap (b2 - a1)) (4 : Int))) * (3 : Int)))))))
  (fB aA 0 (IntKind.i64.wrap (a1 + (IntKind.i64.wrap ((IntKind.i64.wrap (Int.tdiv (IntKind.i64.wrap (b2 - a1)) (4 : Int))) * (2 : Int))))))

noncomputable def dD  (aA : List Int) (i6 : Int) (j7 : Int) : Option ((List Int × Int × Int) ⊕ ((List Int))) :=
  cond (decide (i6 < j7))
  (bG (0 ≤ j7 ∧ j7 < ((List.length aA : Nat) : Int)) <|
  bG (0 ≤ i6 ∧ i6 < ((List.length aA : Nat) : Int)) <|
  bG (0 ≤ i6 ∧ i6 < ((List.length aA : Nat) : Int)) <|
  bG (0 ≤ j7 ∧ j7 < ((List.length aA : Nat) : Int)) <|
  some (.inl (List.set (List.set aA (Int.toNat i6) (List.getD aA (Int.toNat j7) default)) (Int.toNat j7) (List.getD aA (Int.toNat i6) default), IntKind.i64.wrap (i6 + (1 : Int)), IntKind.i64.wrap (j7 - (1 : Int)))))
  (some (.inr aA))

noncomputable def jF (aA : List Int) (i6 : Int) (j7 : Int) : Option (List Int) :=
  (lp (fun s => dD s.1 s.2.1 s.2.2) (aA, i6, j7)).bind (fun rr => some rr)

noncomputable def gV (aA : (List Int)) (a1 : Int) (b2 : Int) : Option (List Int) :=
  jF aA a1 (IntKind.i64.wrap (b2 - (1 : Int)))

noncomputable def eG (aA : List Int) : Option (Bool × List Int) :=
  some (false, aA)

noncomputable def dM (aA : List Int) (a1 : Int) (b2 : Int) (i7 : Int) (j8 : Int) : Option ((List Int × Int × Int) ⊕ ((List Int) ⊕ (Bool × (List Int)))) :=
  some (.inl (aA, i7, IntKind.i64.wrap (j8 + (1 : Int))))

noncomputable def cM (a1 : Int) (b2 : Int) (i7 : Int) (j8 : Int) (aA : List Int) (j10 : Int) : Option ((List Int × Int) ⊕ ((List Int))) :=
  cond (decide (j10 < b2))
  (bG (0 ≤ j10 ∧ j10 < ((List.length aA : Nat) : Int)) <|
  bG (0 ≤ (IntKind.i64.wrap (j10 - (1 : Int))) ∧ (IntKind.i64.wrap (j10 - (1 : Int))) < ((List.length aA : Nat) : Int)) <|
  (cY (List.getD aA (Int.toNat j10) default) (List.getD aA (Int.toNat (IntKind.i64.wrap (j10 - (1 : Int)))) default)).bind fun x12 =>
  cond (!x12)
  (some (.inr aA))
  (bG (0 ≤ (IntKind.i64.wrap (j10 - (1 : Int))) ∧ (IntKind.i64.wrap (j10 - (1 : Int))) < ((List.length aA : Nat) : Int)) <|
  bG (0 ≤ j10 ∧ j10 < ((List.length aA : Nat) : Int)) <|
  bG (0 ≤ j10 ∧ j10 < ((List.length aA : Nat) : Int)) <|
  bG (0 ≤ (IntKind.i64.wrap (j10 - (1 : Int))) ∧ (IntKind.i64.wrap (j10 - (1 : Int))) < ((List.length aA : Nat) : Int)) <|
  some (.inl (List.set (List.set aA (Int.toNat j10) (List.getD aA (Int.toNat (IntKind.i64.wrap (j10 - (1 : Int)))) default)) (Int.toNat (IntKind.i64.wrap (j10 - (1 : Int)))) (List.getD aA (Int.toNat j10) default), IntKind.i64.wrap (j10 + (1 : Int))))))
  (some (.inr aA))

noncomputable def fU (aA : List Int) (a1 : Int) (b2 : Int) (i7 : Int) (j8 : Int) (j10 : Int) : Option ((List Int × Int × Int) ⊕ ((List Int) ⊕ (Bool × (List Int)))) :=
  (lp (fun s => cM a1 b2 i7 j8 s.1 s.2) (aA, j10)).bind (fun rr => dM rr a1 b2 i7 j8)

noncomputable def cF (aA : List Int) (a1 : Int) (b2 : Int) (i7 : Int) (j8 : Int) : Option ((List Int × Int × Int) ⊕ ((List Int) ⊕ (Bool × (List Int)))) :=
  cond (decide ((2 : Int) ≤ (IntKind.i64.wrap (b2 - i7))))
  (fU aA a1 b2 i7 j8 (IntKind.i64.wrap (i7 + (1 : Int))))
  (dM aA a1 b2 i7 j8)

noncomputable def cE (a1 : Int) (b2 : Int) (i7 : Int) (j8 : Int) (aA : List Int) (j9 : Int) : Option ((List Int × Int) ⊕ ((List Int))) :=
  cond (decide ((1 : Int) ≤ j9))
  (bG (0 ≤ j9 ∧ j9 < ((List.length aA : Nat) : Int)) <|
  bG (0 ≤ (IntKind.i64.wrap (j9 - (1 : Int))) ∧ (IntKind.i64.wrap (j9 - (1 : Int))) < ((List.length aA : Nat) : Int)) <|
  (cY (List.getD aA (Int.toNat j9) default) (List.getD aA (Int.toNat (IntKind.i64.wrap (j9 - (1 : Int)))) default)).bind fun x24 =>
  cond (!x24)
  (some (.inr aA))
  (bG (0 ≤ (IntKind.i64.wrap (j9 - (1 : Int))) ∧ (IntKind.i64.wrap (j9 - (1 : Int))) < ((List.length aA : Nat) : Int)) <|
  bG (0 ≤ j9 ∧ j9 < ((List.length aA : Nat) : Int)) <|
  bG (0 ≤ j9 ∧ j9 < ((List.length aA : Nat) : Int)) <|
  bG (0 ≤ (IntKind.i64.wrap (j9 - (1 : Int))) ∧ (IntKind.i64.wrap (j9 - (1 : Int))) < ((List.length aA : Nat) : Int)) <|
  some (.inl (List.set (List.set aA (Int.toNat j9) (List.getD aA (Int.toNat (IntKind.i64.wrap (j9 - (1 : Int)))) default)) (Int.toNat (IntKind.i64.wrap (j9 - (1 : Int)))) (List.getD aA (Int.toNat j9) default), IntKind.i64.wrap (j9 - (1 : Int))))))
  (some (.inr aA))

noncomputable def fT (aA : List Int) (a1 : Int) (b2 : Int) (i7 : Int) (j8 : Int) (j9 : Int) : Option ((List Int × Int × Int) ⊕ ((List Int) ⊕ (Bool × (List Int)))) :=
  (lp (fun s => cE a1 b2 i7 j8 s.1 s.2) (aA, j9)).bind (fun rr => cF rr a1 b2 i7 j8)

noncomputable def eF (aA : List Int) (a1 : Int) (b2 : Int) (i7 : Int) (j8 : Int) : Option ((List Int × Int × Int) ⊕ ((List Int) ⊕ (Bool × (List Int)))) :=
  cond (decide (i7 = b2))
  (some (.inr (.inr (true, aA))))
  (cond (decide ((IntKind.i64.wrap (b2 - a1)) < (50 : Int)))
  (some (.inr (.inr (false, aA))))
  (bG (0 ≤ (IntKind.i64.wrap (i7 - (1 : Int))) ∧ (IntKind.i64.wrap (i7 - (1 : Int))) < ((List.length aA : Nat) : Int)) <|
  bG (0 ≤ i7 ∧ i7 < ((List.length aA : Nat) : Int)) <|
  bG (0 ≤ i7 ∧ i7 < ((List.length aA : Nat) : Int)) <|
  bG (0 ≤ (IntKind.i64.wrap (i7 - (1 : Int))) ∧ (IntKind.i64.wrap (i7 - (1 : Int))) < ((List.length aA : Nat) : Int)) <|
  cond (decide ((2 : Int) ≤ (IntKind.i64.wrap (i7 - a1))))
  (fT (List.set (List.set aA (Int.toNat i7) (List.getD aA (Int.toNat (IntKind.i64.wrap (i7 - (1 : Int)))) default)) (Int.toNat (IntKind.i64.wrap (i7 - (1 : Int)))) (List.getD aA (Int.toNat i7) default)) a1 b2 i7 j8 (IntKind.i64.wrap (i7 - (1 : Int))))
  (cF (List.set (List.set aA (Int.toNat i7) (List.getD aA (Int.toNat (IntKind.i64.wrap (i7 - (1 : Int)))) default)) (Int.toNat (IntKind.i64.wrap (i7 - (1 : Int)))) (List.getD aA (Int.toNat i7) default)) a1 b2 i7 j8)))

noncomputable def cN (a1 : Int) (b2 : Int) (j8 : Int) (aA : List Int) (i7 : Int) : Option ((List Int × Int) ⊕ ((List Int × Int))) :=
  bG ((((decide (i7 < b2))) = true → 0 ≤ i7 ∧ i7 < ((List.length aA : Nat) : Int))) <|
  bG ((((decide (i7 < b2))) = true → 0 ≤ (IntKind.i64.wrap (i7 - (1 : Int))) ∧ (IntKind.i64.wrap (i7 - (1 : Int))) < ((List.length aA : Nat) : Int))) <|
  (dG (decide (i7 < b2)) (cY (List.getD aA (Int.toNat i7) default) (List.getD aA (Int.toNat (IntKind.i64.wrap (i7 - (1 : Int)))) default))).bind fun x34 =>
  cond ((decide (i7 < b2)) && (!x34))
  (some (.inl (aA, IntKind.i64.wrap (i7 + (1 : Int)))))
  (some (.inr (aA, i7)))

noncomputable def cU (aA : List Int) (a1 : Int) (b2 : Int) (i7 : Int) (j8 : Int) : Option ((List Int × Int × Int) ⊕ ((List Int) ⊕ (Bool × (List Int)))) :=
  (lp (fun s => cN a1 b2 j8 s.1 s.2) (aA, i7)).bind (fun rr => eF rr.1 a1 b2 rr.2 j8)

noncomputable def bT (a1 : Int) (b2 : Int) (aA : List Int) (i7 : Int) (j8 : Int) : Option ((List Int × Int × Int) ⊕ ((List Int) ⊕ (Bool × (List Int)))) :=
  cond (decide (j8 < (5 : Int)))
  (cU aA a1 b2 i7 j8)
  (some (.inr (.inl aA)))

noncomputable def fW (aA : List Int) (a1 : Int) (b2 : Int) (i7 : Int) (j8 : Int) : Option (Bool × List Int) :=
  (lp (fun s => bT a1 b2 s.1 s.2.1 s.2.2) (aA, i7, j8)).bind (Sum.elim (fun rr => eG rr) (fun rr => some (rr.1, rr.2)))

noncomputable def eR (aA : (List Int)) (a1 : Int) (b2 : Int) : Option (Bool × List Int) :=
  fW aA a1 b2 (IntKind.i64.wrap (a1 + (1 : Int))) (0 : Int)

noncomputable def iN (aA : List Int) (i9 : Int) : Option (Int × List Int) :=
  some (i9, aA)

noncomputable def dN (aA : List Int) (a1 : Int) (i9 : Int) (j10 : Int) : Option ((List Int × Int × Int) ⊕ ((List Int × Int))) :=
  cond (decide (j10 < i9))
  (some (.inr (aA, i9)))
  (bG (0 ≤ j10 ∧ j10 < ((List.length aA : Nat) : Int)) <|
  bG (0 ≤ i9 ∧ i9 < ((List.length aA : Nat) : Int)) <|
  bG (0 ≤ i9 ∧ i9 < ((List.length aA : Nat) : Int)) <|
  bG (0 ≤ j10 ∧ j10 < ((List.length aA : Nat) : Int)) <|
  some (.inl (List.set (List.set aA (Int.toNat i9) (List.getD aA (Int.toNat j10) default)) (Int.toNat j10) (List.getD aA (Int.toNat i9) default), IntKind.i64.wrap (i9 + (1 : Int)), IntKind.i64.wrap (j10 - (1 : Int)))))

noncomputable def dO (a1 : Int) (i9 : Int) (aA : List Int) (j10 : Int) : Option ((List Int × Int) ⊕ ((List Int × Int))) :=
  bG ((((decide (i9 ≤ j10))) = true → 0 ≤ a1 ∧ a1 < ((List.length aA : Nat) : Int))) <|
  bG ((((decide (i9 ≤ j10))) = true → 0 ≤ j10 ∧ j10 < ((List.length aA : Nat) : Int))) <|
  (dG (decide (i9 ≤ j10)) (cY (List.getD aA (Int.toNat a1) default) (List.getD aA (Int.toNat j10) default))).bind fun x12 =>
  cond ((decide (i9 ≤ j10)) && x12)
  (some (.inl (aA, IntKind.i64.wrap (j10 - (1 : Int)))))
  (some (.inr (aA, j10)))

noncomputable def iT (aA : List Int) (a1 : Int) (i9 : Int) (j10 : Int) : Option ((List Int × Int × Int) ⊕ ((List Int × Int))) :=
  (lp (fun s => dO a1 i9 s.1 s.2) (aA, j10)).bind (fun rr => dN rr.1 a1 i9 rr.2)

noncomputable def fO (aA : List Int) (a1 : Int) (i9 : Int) (j10 : Int) : Option ((List Int × Int × Int) ⊕ ((List Int × Int))) :=
  iT aA a1 i9 j10

noncomputable def dP (a1 : Int) (j10 : Int) (aA : List Int) (i9 : Int) : Option ((List Int × Int) ⊕ ((List Int × Int))) :=
  bG ((((decide (i9 ≤ j10))) = true → 0 ≤ a1 ∧ a1 < ((List.length aA : Nat) : Int))) <|
  bG ((((decide (i9 ≤ j10))) = true → 0 ≤ i9 ∧ i9 < ((List.length aA : Nat) : Int))) <|
  (dG (decide (i9 ≤ j10)) (cY (List.getD aA (Int.toNat a1) default) (List.getD aA (Int.toNat i9) default))).bind fun x18 =>
  cond ((decide (i9 ≤ j10)) && (!x18))
  (some (.inl (aA, IntKind.i64.wrap (i9 + (1 : Int)))))
  (some (.inr (aA, i9)))

noncomputable def iS (aA : List Int) (a1 : Int) (i9 : Int) (j10 : Int) : Option ((List Int × Int × Int) ⊕ ((List Int × Int))) :=
  (lp (fun s => dP a1 j10 s.1 s.2) (aA, i9)).bind (fun rr => fO rr.1 a1 rr.2 j10)

noncomputable def cO (a1 : Int) (aA : List Int) (i9 : Int) (j10 : Int) : Option ((List Int × Int × Int) ⊕ ((List Int × Int))) :=
  iS aA a1 i9 j10

noncomputable def iQ (aA : List Int) (a1 : Int) (i9 : Int) (j10 : Int) : Option (Int × List Int) :=
  (lp (fun s => cO a1 s.1 s.2.1 s.2.2) (aA, i9, j10)).bind (fun rr => iN rr.1 rr.2)

noncomputable def eU (aA : (List Int)) (a1 : Int) (b2 : Int) (cG : Int) : Option (Int × List Int) :=
  bG (0 ≤ cG ∧ cG < ((List.length aA : Nat) : Int)) <|
  bG (0 ≤ a1 ∧ a1 < ((List.length aA : Nat) : Int)) <|
  bG (0 ≤ a1 ∧ a1 < ((List.length aA : Nat) : Int)) <|
  bG (0 ≤ cG ∧ cG < ((List.length aA : Nat) : Int)) <|
  iQ (List.set (List.set aA (Int.toNat a1) (List.getD aA (Int.toNat cG) default)) (Int.toNat cG) (List.getD aA (Int.toNat a1) default)) a1 (IntKind.i64.wrap (a1 + (1 : Int))) (IntKind.i64.wrap (b2 - (1 : Int)))

noncomputable def iK (aA : List Int) (a1 : Int) (j11 : Int) : Option ((Int × Bool) × List Int) :=
  bG (0 ≤ a1 ∧ a1 < ((List.length aA : Nat) : Int)) <|
  bG (0 ≤ j11 ∧ j11 < ((List.length aA : Nat) : Int)) <|
  bG (0 ≤ j11 ∧ j11 < ((List.length aA : Nat) : Int)) <|
  bG (0 ≤ a1 ∧ a1 < ((List.length aA : Nat) : Int)) <|
  some ((j11, false), (List.set (List.set aA (Int.toNat j11) (List.getD aA (Int.toNat a1) default)) (Int.toNat a1) (List.getD aA (Int.toNat j11) default)))

noncomputable def eJ (aA : List Int) (a1 : Int) (i10 : Int) (j11 : Int) : Option ((List Int × Int × Int) ⊕ ((List Int × Int))) :=
  cond (decide (j11 < i10))
  (some (.inr (aA, j11)))
  (bG (0 ≤ j11 ∧ j11 < ((List.length aA : Nat) : Int)) <|
  bG (0 ≤ i10 ∧ i10 < ((List.length aA : Nat) : Int)) <|
  bG (0 ≤ i10 ∧ i10 < ((List.length aA : Nat) : Int)) <|
  bG (0 ≤ j11 ∧ j11 < ((List.length aA : Nat) : Int)) <|
  some (.inl (List.set (List.set aA (Int.toNat i10) (List.getD aA (Int.toNat j11) default)) (Int.toNat j11) (List.getD aA (Int.toNat i10) default), IntKind.i64.wrap (i10 + (1 : Int)), IntKind.i64.wrap (j11 - (1 : Int)))))

noncomputable def eK (a1 : Int) (i10 : Int) (aA : List Int) (j11 : Int) : Option ((List Int × Int) ⊕ ((List Int × Int))) :=
  bG ((((decide (i10 ≤ j11))) = true → 0 ≤ j11 ∧ j11 < ((List.length aA : Nat) : Int))) <|
  bG ((((decide (i10 ≤ j11))) = true → 0 ≤ a1 ∧ a1 < ((List.length aA : Nat) : Int))) <|
  (dG (decide (i10 ≤ j11)) (cY (List.getD aA (Int.toNat j11) default) (List.getD aA (Int.toNat a1) default))).bind fun x25 =>
  cond ((decide (i10 ≤ j11)) && (!x25))
  (some (.inl (aA, IntKind.i64.wrap (j11 - (1 : Int)))))
  (some (.inr (aA, j11)))

noncomputable def jW (aA : List Int) (a1 : Int) (i10 : Int) (j11 : Int) : Option ((List Int × Int × Int) ⊕ ((List Int × Int))) :=
  (lp (fun s => eK a1 i10 s.1 s.2) (aA, j11)).bind (fun rr => eJ rr.1 a1 i10 rr.2)

noncomputable def iJ (aA : List Int) (a1 : Int) (i10 : Int) (j11 : Int) : Option ((List Int × Int × Int) ⊕ ((List Int × Int))) :=
  jW aA a1 i10 j11

noncomputable def eN (a1 : Int) (j11 : Int) (aA : List Int) (i10 : Int) : Option ((List Int × Int) ⊕ ((List Int × Int))) :=
  bG ((((decide (i10 ≤ j11))) = true → 0 ≤ i10 ∧ i10 < ((List.length aA : Nat) : Int))) <|
  bG ((((decide (i10 ≤ j11))) = true → 0 ≤ a1 ∧ a1 < ((List.length aA : Nat) : Int))) <|
  (dG (decide (i10 ≤ j11)) (cY (List.getD aA (Int.toNat i10) default) (List.getD aA (Int.toNat a1) default))).bind fun x31 =>
  cond ((decide (i10 ≤ j11)) && x31)
  (some (.inl (aA, IntKind.i64.wrap (i10 + (1 : Int)))))
  (some (.inr (aA, i10)))

noncomputable def kA (aA : List Int) (a1 : Int) (i10 : Int) (j11 : Int) : Option ((List Int × Int × Int) ⊕ ((List Int × Int))) :=
  (lp (fun s => eN a1 j11 s.1 s.2) (aA, i10)).bind (fun rr => iJ rr.1 a1 rr.2 j11)

noncomputable def dA (a1 : Int) (aA : List Int) (i10 : Int) (j11 : Int) : Option ((List Int × Int × Int) ⊕ ((List Int × Int))) :=
  kA aA a1 i10 j11

noncomputable def jU (aA : List Int) (a1 : Int) (i10 : Int) (j11 : Int) : Option ((Int × Bool) × List Int) :=
  (lp (fun s => dA a1 s.1 s.2.1 s.2.2) (aA, i10, j11)).bind (fun rr => iK rr.1 a1 rr.2)

noncomputable def eP (aA : List Int) (a1 : Int) (i10 : Int) (j11 : Int) : Option ((Int × Bool) × List Int) :=
  cond (decide (j11 < i10))
  (bG (0 ≤ a1 ∧ a1 < ((List.length aA : Nat) : Int)) <|
  bG (0 ≤ j11 ∧ j11 < ((List.length aA : Nat) : Int)) <|
  bG (0 ≤ j11 ∧ j11 < ((List.length aA : Nat) : Int)) <|
  bG (0 ≤ a1 ∧ a1 < ((List.length aA : Nat) : Int)) <|
  some ((j11, true), (List.set (List.set aA (Int.toNat j11) (List.getD aA (Int.toNat a1) default)) (Int.toNat a1) (List.getD aA (Int.toNat j11) default))))
  (bG (0 ≤ j11 ∧ j11 < ((List.length aA : Nat) : Int)) <|
  bG (0 ≤ i10 ∧ i10 < ((List.length aA : Nat) : Int)) <|
  bG (0 ≤ i10 ∧ i10 < ((List.length aA : Nat) : Int)) <|
  bG (0 ≤ j11 ∧ j11 < ((List.length aA : Nat) : Int)) <|
  jU (List.set (List.set aA (Int.toNat i10) (List.getD aA (Int.toNat j11) default)) (Int.toNat j11) (List.getD aA (Int.toNat i10) default)) a1 (IntKind.i64.wrap (i10 + (1 : Int))) (IntKind.i64.wrap (j11 - (1 : Int))))

noncomputable def eO (a1 : Int) (i10 : Int) (aA : List Int) (j11 : Int) : Option ((List Int × Int) ⊕ ((List Int × Int))) :=
  bG ((((decide (i10 ≤ j11))) = true → 0 ≤ j11 ∧ j11 < ((List.length aA : Nat) : Int))) <|
  bG ((((decide (i10 ≤ j11))) = true → 0 ≤ a1 ∧ a1 < ((List.length aA : Nat) : Int))) <|
  (dG (decide (i10 ≤ j11)) (cY (List.getD aA (Int.toNat j11) default) (List.getD aA (Int.toNat a1) default))).bind fun x37 =>
  cond ((decide (i10 ≤ j11)) && (!x37))
  (some (.inl (aA, IntKind.i64.wrap (j11 - (1 : Int)))))
  (some (.inr (aA, j11)))

noncomputable def jV (aA : List Int) (a1 : Int) (i10 : Int) (j11 : Int) : Option ((Int × Bool) × List Int) :=
  (lp (fun s => eO a1 i10 s.1 s.2) (aA, j11)).bind (fun rr => eP rr.1 a1 i10 rr.2)

noncomputable def iG (aA : List Int) (a1 : Int) (i10 : Int) (j11 : Int) : Option ((Int × Bool) × List Int) :=
  jV aA a1 i10 j11

noncomputable def eE (a1 : Int) (j11 : Int) (aA : List Int) (i10 : Int) : Option ((List Int × Int) ⊕ ((List Int × Int))) :=
  bG ((((decide (i10 ≤ j11))) = true → 0 ≤ i10 ∧ i10 < ((List.length aA : Nat) : Int))) <|
  bG ((((decide (i10 ≤ j11))) = true → 0 ≤ a1 ∧ a1 < ((List.length aA : Nat) : Int))) <|
  (dG (decide (i10 ≤ j11)) (cY (List.getD aA (Int.toNat i10) default) (List.getD aA (Int.toNat a1) default))).bind fun x43 =>
  cond ((decide (i10 ≤ j11)) && x43)
  (some (.inl (aA, IntKind.i64.wrap (i10 + (1 : Int)))))
  (some (.inr (aA, i10)))

noncomputable def fH (aA : List Int) (a1 : Int) (i10 : Int) (j11 : Int) : Option ((Int × Bool) × List Int) :=
  (lp (fun s => eE a1 j11 s.1 s.2) (aA, i10)).bind (fun rr => iG rr.1 a1 rr.2 j11)

noncomputable def gE (aA : (List Int)) (a1 : Int) (b2 : Int) (cG : Int) : Option ((Int × Bool) × List Int) :=
  bG (0 ≤ cG ∧ cG < ((List.length aA : Nat) : Int)) <|
  bG (0 ≤ a1 ∧ a1 < ((List.length aA : Nat) : Int)) <|
  bG (0 ≤ a1 ∧ a1 < ((List.length aA : Nat) : Int)) <|
  bG (0 ≤ cG ∧ cG < ((List.length aA : Nat) : Int)) <|
  fH (List.set (List.set aA (Int.toNat a1) (List.getD aA (Int.toNat cG) default)) (Int.toNat cG) (List.getD aA (Int.toNat a1) default)) a1 (IntKind.i64.wrap (a1 + (1 : Int))) (IntKind.i64.wrap (b2 - (1 : Int)))

noncomputable def gO (rec : (List Int) → Int → Int → Int → Option (List Int)) (aA : List Int) (a1 : Int) (b2 : Int) (bV : Int) (bS : Bool) (bL : Bool) (dU : Int) (fM : Int) : Option ((List Int × Int × Int × Int × Bool × Bool) ⊕ ((List Int))) :=
  bG ((((decide ((0 : Int) < a1))) = true → 0 ≤ (IntKind.i64.wrap (a1 - (1 : Int))) ∧ (IntKind.i64.wrap (a1 - (1 : Int))) < ((List.length aA : Nat) : Int))) <|
  bG ((((decide ((0 : Int) < a1))) = true → 0 ≤ fM ∧ fM < ((List.length aA : Nat) : Int))) <|
  (dG (decide ((0 : Int) < a1)) (cY (List.getD aA (Int.toNat (IntKind.i64.wrap (a1 - (1 : Int)))) default) (List.getD aA (Int.toNat fM) default))).bind fun x16 =>
  cond ((decide ((0 : Int) < a1)) && (!x16))
  ((eU aA a1 b2 fM).bind fun x20 =>
  some (.inl (x20.2, x20.1, b2, bV, bS, bL)))
  ((gE aA a1 b2 fM).bind fun x23 =>
  bG ((8 : Int) ≠ 0) <|
  cond (decide ((IntKind.i64.wrap (x23.1.1 - a1)) < (IntKind.i64.wrap (b2 - x23.1.1))))
  ((rec x23.2 a1 x23.1.1 bV).bind fun x28 =>
  some (.inl (x28, IntKind.i64.wrap (x23.1.1 + (1 : Int)), b2, bV, decide ((IntKind.i64.wrap (Int.tdiv dU (8 : Int))) ≤ (IntKind.i64.wrap (x23.1.1 - a1))), x23.1.2)))
  ((rec x23.2 (IntKind.i64.wrap (x23.1.1 + (1 : Int))) b2 bV).bind fun x31 =>
  some (.inl (x31, a1, x23.1.1, bV, decide ((IntKind.i64.wrap (Int.tdiv dU (8 : Int))) ≤ (IntKind.i64.wrap (b2 - x23.1.1))), x23.1.2))))

noncomputable def gP (rec : (List Int) → Int → Int → Int → Option (List Int)) (aA : List Int) (a1 : Int) (b2 : Int) (bV : Int) (bS : Bool) (bL : Bool) (dU : Int) (fM : Int) (AN : Int) : Option ((List Int × Int × Int × Int × Bool × Bool) ⊕ ((List Int))) :=
  cond ((bS && bL) && (decide (AN = (1 : Int))))
  ((eR aA a1 b2).bind fun x35 =>
  cond x35.1
  (some (.inr x35.2))
  (gO rec x35.2 a1 b2 bV bS bL dU fM))
  (gO rec aA a1 b2 bV bS bL dU fM)

noncomputable def gS (rec : (List Int) → Int → Int → Int → Option (List Int)) (aA : List Int) (a1 : Int) (b2 : Int) (bV : Int) (bS : Bool) (bL : Bool) (dU : Int) : Option ((List Int × Int × Int × Int × Bool × Bool) ⊕ ((List Int))) :=
  (hY aA a1 b2).bind fun x9 =>
  cond (decide (x9.2 = (2 : Int)))
  ((gV aA a1 b2).bind fun x40 =>
  gP rec x40 a1 b2 bV bS bL dU (IntKind.i64.wrap ((IntKind.i64.wrap (b2 - (1 : Int))) - (IntKind.i64.wrap (x9.1 - a1)))) (1 : Int))
  (gP rec aA a1 b2 bV bS bL dU x9.1 x9.2)

noncomputable def eB (rec : (List Int) → Int → Int → Int → Option (List Int))  (aA : List Int) (a1 : Int) (b2 : Int) (bV : Int) (bS : Bool) (bL : Bool) : Option ((List Int × Int × Int × Int × Bool × Bool) ⊕ ((List Int))) :=
  cond (decide ((IntKind.i64.wrap (b2 - a1)) ≤ (12 : Int)))
  ((gK aA a1 b2).bind fun x2 =>
  some (.inr x2))
  (cond (decide (bV = (0 : Int)))
  ((jC aA a1 b2).bind fun x6 =>
  some (.inr x6))
  (cond (!bS)
  ((gJ aA a1 b2).bind fun x44 =>
  gS rec x44 a1 b2 (IntKind.i64.wrap (bV - (1 : Int))) bS bL (IntKind.i64.wrap (b2 - a1)))
  (gS rec aA a1 b2 bV bS bL (IntKind.i64.wrap (b2 - a1)))))

noncomputable def kO (rec : (List Int) → Int → Int → Int → Option (List Int)) (aA : List Int) (a1 : Int) (b2 : Int) (bV : Int) (bS : Bool) (bL : Bool) : Option (List Int) :=
  (lp (fun s => eB rec s.1 s.2.1 s.2.2.1 s.2.2.2.1 s.2.2.2.2.1 s.2.2.2.2.2) (aA, a1, b2, bV, bS, bL)).bind (fun rr => some rr)

noncomputable def fK (rec : (List Int) → Int → Int → Int → Option (List Int)) (aA : (List Int)) (a1 : Int) (b2 : Int) (bV : Int) : Option (List Int) :=
  kO rec aA a1 b2 bV true true

noncomputable def cX  : Nat → (List Int) → Int → Int → Int → Option (List Int)
  | 0 => fun _ _ _ _ => none
  | k + 1 => fK (cX k)

noncomputable def jH (aA : (List Int)) (a1 : Int) (b2 : Int) (bV : Int) : Option (List Int) := ON (fun k => cX k aA a1 b2 bV)

noncomputable def kC (x0 : (List Int)) : Option (List Int) :=
  (jY (IntKind.u64.wrap ((List.length x0 : Nat) : Int))).bind fun x1 =>
  (jH x0 (0 : Int) ((List.length x0 : Nat) : Int) x1).bind fun x4 =>
  some x4

noncomputable def wY (f0 : (List aB)) : Option ((List aB)) :=
  some f0

noncomputable def mJ {σ : Type} (cK : σ → bJ → Option (σ × Bool)) (sg : σ) (n3 : Int) (jO : Int) : Option σ :=
  cond (decide ((0 : Int) < n3))
  ((cK sg (bJ.mk jO (1125899906842624 : Int))).bind fun x2 =>
  some x2.1)
  (some sg)

noncomputable def lK {σ : Type} (cK : σ → bJ → Option (σ × Bool)) (sg : σ) (n3 : Int) (jO : Int) (j6 : aB) (t7 : (List aB)) (t8 : Int) (t9 : Int) : Option ((σ × Int × Int × Int) ⊕ ((σ × Int × Int) ⊕ σ)) :=
  (DO (decide ((IntKind.i64.wrap (n3 + j6.Net)) = (0 : Int))) sg (cK sg (bJ.mk jO j6.At))).bind fun (x10, x11) =>
  cond ((decide ((IntKind.i64.wrap (n3 + j6.Net)) = (0 : Int))) && (!x11))
  (some (.inr (.inr x10)))
  (some (.inl (x10, IntKind.i64.wrap (n3 + j6.Net), jO, IntKind.i64.wrap (t9 + (1 : Int)))))

noncomputable def fR {σ : Type} (cK : σ → bJ → Option (σ × Bool)) (t7 : (List aB)) (t8 : Int) (sg : σ) (n3 : Int) (jO : Int) (t9 : Int) : Option ((σ × Int × Int × Int) ⊕ ((σ × Int × Int) ⊕ σ)) :=
  cond (decide (t9 < t8))
  (bG (0 ≤ t9 ∧ t9 < ((List.length t7 : Nat) : Int)) <|
  cond (decide (n3 = (0 : Int)))
  (lK cK sg n3 ((List.getD t7 (Int.toNat t9) default).At) (List.getD t7 (Int.toNat t9) default) t7 t8 t9)
  (lK cK sg n3 jO (List.getD t7 (Int.toNat t9) default) t7 t8 t9))
  (some (.inr (.inl (sg, n3, jO))))

noncomputable def qD {σ : Type} (cK : σ → bJ → Option (σ × Bool)) (sg : σ) (n3 : Int) (jO : Int) (t7 : (List aB)) (t8 : Int) (t9 : Int) : Option σ :=
  (lp (fun s => fR cK t7 t8 s.1 s.2.1 s.2.2.1 s.2.2.2) (sg, n3, jO, t9)).bind (Sum.elim (fun rr => mJ cK rr.1 rr.2.1 rr.2.2) (fun rr => some rr))

noncomputable def oW {σ : Type} (cK : σ → bJ → Option (σ × Bool)) (t1 : (List aB)) (sg0 : σ) : Option σ :=
  qD cK sg0 (0 : Int) (0 : Int) t1 ((List.length t1 : Nat) : Int) (0 : Int)

noncomputable def tB (v5 : Int) : Option Int :=
  some v5

noncomputable def mT (t1 : Int) (t11 : (List aB)) (t12 : Int) (v5 : Int) (t13 : Int) : Option ((Int × Int) ⊕ (Int)) :=
  cond (decide (t13 < t12))
  (bG (0 ≤ t13 ∧ t13 < ((List.length t11 : Nat) : Int)) <|
  cond (decide (t1 < ((List.getD t11 (Int.toNat t13) default).At)))
  (some (.inr v5))
  (some (.inl (IntKind.i64.wrap (v5 + ((List.getD t11 (Int.toNat t13) default).Net)), IntKind.i64.wrap (t13 + (1 : Int))))))
  (some (.inr v5))

noncomputable def xY (t1 : Int) (v5 : Int) (t11 : (List aB)) (t12 : Int) (t13 : Int) : Option Int :=
  (lp (fun s => mT t1 t11 t12 s.1 s.2) (v5, t13)).bind (fun rr => tB rr)

noncomputable def xJ (f0 : (List aB)) (t1 : Int) : Option Int :=
  (lW f0).bind fun x1 =>
  cond (!x1)
  (some (0 : Int))
  (xY t1 (0 : Int) f0 ((List.length f0 : Nat) : Int) (0 : Int))

noncomputable def sY (n5 : Int) : Option Int :=
  some n5

noncomputable def nU (w3 : bJ) (n5 : Int) (t12 : (List aB)) (t13 : Int) (t14 : Int) : Option ((Int × Int) ⊕ (Int)) :=
  some (.inl (n5, IntKind.i64.wrap (t14 + (1 : Int))))

noncomputable def nW (w3 : bJ) (t12 : (List aB)) (t13 : Int) (n5 : Int) (t14 : Int) : Option ((Int × Int) ⊕ (Int)) :=
  cond (decide (t14 < t13))
  (bG (0 ≤ t14 ∧ t14 < ((List.length t12 : Nat) : Int)) <|
  cond ((decide (w3.From < ((List.getD t12 (Int.toNat t14) default).At))) && (decide (((List.getD t12 (Int.toNat t14) default).At) < w3.To)))
  (nU w3 (IntKind.i64.wrap (n5 + (if (0 : Int) > ((List.getD t12 (Int.toNat t14) default).Net) then (0 : Int) else ((List.getD t12 (Int.toNat t14) default).Net)))) t12 t13 t14)
  (nU w3 n5 t12 t13 t14))
  (some (.inr n5))

noncomputable def tA (w3 : bJ) (n5 : Int) (t12 : (List aB)) (t13 : Int) (t14 : Int) : Option Int :=
  (lp (fun s => nW w3 t12 t13 s.1 s.2) (n5, t14)).bind (fun rr => sY rr)

noncomputable def qY (f0 : (List aB)) (w1 : bJ) : Option Int :=
  (xJ f0 w1.From).bind fun x1 =>
  tA w1 x1 f0 ((List.length f0 : Nat) : Int) (0 : Int)

noncomputable def shP (a b : Nat) (p : aU) : List (Nat × Nat × List V) := [(a, 3, [(.agg [(eI p.Span.From), (eI p.Span.To), (.msl 2 b 0 (List.length p.Rows))])]), (b, 2, List.map cQ p.Rows)]

noncomputable def shF (a _b : Nat) (p : aU) : List (Nat × Nat × List V) := [(a, 3, [(aT p)])]

noncomputable def nG (r : List aE) (f : List aB) (p : aU) : Option aU :=
  bG ((!(decide ((wR ((lN p.Rows) - (1 : Int))) < (0 : Int)))) = true → 0 ≤ (wR ((lN p.Rows) - (1 : Int))) ∧ (wR ((lN p.Rows) - (1 : Int))) < (lN p.Rows)) <|
  (dG (!(decide ((wR ((lN p.Rows) - (1 : Int))) < (0 : Int)))) (qB ((gD p.Rows (wR ((lN p.Rows) - (1 : Int)))).Row) r)).bind fun x1 =>
  cond ((decide ((wR ((lN p.Rows) - (1 : Int))) < (0 : Int))) || (!x1))
  ((qF r).bind fun x2 =>
  (qY f p.Span).bind fun x3 =>
  bG ((List.length p.Rows + List.length ([dR.mk x2 x3])) * 32 ≤ 140737488355328 ∧ List.length p.Rows + List.length ([dR.mk x2 x3]) ≤ 9223372036854775807) <|
  some (aU.mk p.Span (p.Rows ++ [dR.mk x2 x3])))
  (some p)

noncomputable def mC (r : List aE) (f : List aB) (size : Int) (b : Bool) (m : List (Int × aU)) (t : Int) : Option ((Bool × List (Int × aU)) ⊕ (Bool × List (Int × aU))) :=
  match fG m t with
  | none => cond (decide ((lN m) = (1024 : Int)))
    (some (.inr (false, m)))
    ((nG r f (aU.mk (bJ.mk t (if (1125899906842624 : Int) < (wR (t + size)) then (1125899906842624 : Int) else (wR (t + size)))) [])).bind fun p => some (.inl (b, gR m t p)))
  | some p => (nG r f p).bind fun p => some (.inl (b, gR m t p))

noncomputable def nD (r : List aE) (f : List aB) (size hop frm front : Int) (b : Bool) (m : List (Int × aU)) (s : bJ) : Option ((Bool × List (Int × aU)) ⊕ (Bool × List (Int × aU))) :=
  (pL size hop s frm front).bind fun x =>
  (mI (fun st t => rnd (fun (q : Bool × List (Int × aU)) => mC r f size q.1 q.2 t) st) x.1 x.2.1 x.2.2.1 x.2.2.2.1 x.2.2.2.2 (.inl (b, m))).bind (Sum.elim (fun q => some (.inl q)) (fun q => some (.inr q)))

noncomputable def sI (m : List (Int × aU)) (r : List aE) (f : List aB) (size hop frm front : Int) : Option (Bool × List (Int × aU)) :=
  (wY f).bind fun x =>
  (oW (fun st s => rnd (fun (q : Bool × List (Int × aU)) => nD r f size hop frm front q.1 q.2 s) st) x (.inl (false, m))).bind (Sum.elim (fun q => some (true, q.2)) (fun q => some (q.1, q.2)))

noncomputable def lX (size hop frm front : Int) (t10 : List aU) (t11 : Int) (m : List (Int × aU)) (r : List aE) (f : List aB) : Option ((List aU × Int × List (Int × aU)) ⊕ (List aU × Int × List (Int × aU))) :=
  (sI m r f size hop frm front).bind fun x =>
  cond (!x.1)
  (some (.inr ([], (7 : Int), x.2)))
  (some (.inl (t10, t11, x.2)))

noncomputable def pU (m : List (Int × aU)) (b : List Int) (n : Int) (out : List aU) (i : Int) : Option ((List aU × Int) ⊕ (List aU)) :=
  cond (decide (i < n))
  (bG (0 ≤ i ∧ i < (lN b)) <|
  match fG m (gD b i) with
  | none => none
  | some p =>
    bG ((List.length out + List.length ([p])) * 40 ≤ 140737488355328 ∧ List.length out + List.length ([p]) ≤ 9223372036854775807) <|
    some (.inl (out ++ [p], wR (i + (1 : Int)))))
  (some (.inr out))

noncomputable def zD (m : List (Int × aU)) (b : List Int) : Option (List aU × Int) :=
  (kC b).bind fun b =>
  bG (0 ≤ (lN b) ∧ (40 : Int) * (lN b) ≤ 281474976710656 ∧ (lN b) ≤ 9223372036854775807) <|
  (lp (fun s => pU m b (lN b) s.1 s.2) (([] : List aU), (0 : Int))).bind fun out => some (out, (0 : Int))

noncomputable def pK (s : List Int) (k : Int) : Option (List Int) :=
  bG ((List.length s + List.length ([k])) * 8 ≤ 140737488355328 ∧ List.length s + List.length ([k]) ≤ 9223372036854775807) <|
  some (s ++ [k])

noncomputable def sQ (m : List (Int × aU)) : Option (List aU × Int) :=
  bG (0 ≤ (lN m) ∧ (8 : Int) * (lN m) ≤ 281474976710656 ∧ (lN m) ≤ 9223372036854775807) <|
  sB (m.map (·.1)) (fun q => (dF pK ([] : List Int) q).bind (zD m))

noncomputable def zF (l : List aL) (size hop frm front : Int) (t10 : List aU) (t11 : Int) : Option (List aU × Int) :=
  (uL l).bind fun x =>
  (nM (fun st r f => rnd (fun (q : List aU × Int × List (Int × aU)) => lX size hop frm front q.1 q.2.1 q.2.2 r f) st) x (.inl (t10, t11, []))).bind (Sum.elim (fun q => sQ q.2.2) (fun q => some (q.1, q.2.1)))

noncomputable def oX (l0 : (List aL)) (jZ : Int) (hop2 : Int) (iH : Int) (dJ : Int) : Option ((List aU) × Int) :=
  (pV jZ hop2).bind fun x3 =>
  (dG (!(!x3)) (qJ l0)).bind fun x6 =>
  cond ((!x3) || (!x6))
  (some ([], (2 : Int)))
  ((pM l0).bind fun x10 =>
  cond (!x10)
  (some ([], (20 : Int)))
  ((mP iH).bind fun x14 =>
  (dG (!(!x14)) (mP dJ)).bind fun x17 =>
  cond ((!x14) || (!x17))
  (some ([], (13 : Int)))
  (zF l0 jZ hop2 iH dJ ([]) 0)))

noncomputable def oA  : Option Bool :=
  (sX (10 : Int) (5 : Int) (12 : Int)).bind fun x1 =>
  (sP (10 : Int) (5 : Int) (bJ.mk (3 : Int) (7 : Int)) (0 : Int) (100 : Int)).bind fun x4 =>
  (oX ([aL.mk ([aE.mk (1 : Int) (1 : Int) ByteArray.empty]) (3 : Int) (1 : Int), aL.mk ([aE.mk (1 : Int) (1 : Int) ByteArray.empty]) (7 : Int) (-1 : Int)]) (10 : Int) (5 : Int) (0 : Int) (100 : Int)).bind fun x7 =>
  bG (((((((decide (x1.1 = (5 : Int))) && (decide (x1.2 = (0 : Int)))) && (decide (x4.2 = (0 : Int)))) && (decide (((List.length x4.1 : Nat) : Int) = (2 : Int))))) = true → 0 ≤ (1 : Int) ∧ (1 : Int) < ((List.length x4.1 : Nat) : Int))) <|
  bG ((((((((((decide (x1.1 = (5 : Int))) && (decide (x1.2 = (0 : Int)))) && (decide (x4.2 = (0 : Int)))) && (decide (((List.length x4.1 : Nat) : Int) = (2 : Int)))) && (decide ((List.getD x4.1 (Int.toNat (1 : Int)) default) = (5 : Int)))) && (decide (x7.2 = (0 : Int)))) && (decide (((List.length x7.1 : Nat) : Int) = (2 : Int))))) = true → 0 ≤ (1 : Int) ∧ (1 : Int) < ((List.length x7.1 : Nat) : Int))) <|
  bG (((((((((((decide (x1.1 = (5 : Int))) && (decide (x1.2 = (0 : Int)))) && (decide (x4.2 = (0 : Int)))) && (decide (((List.length x4.1 : Nat) : Int) = (2 : Int)))) && (decide ((List.getD x4.1 (Int.toNat (1 : Int)) default) = (5 : Int)))) && (decide (x7.2 = (0 : Int)))) && (decide (((List.length x7.1 : Nat) : Int) = (2 : Int)))) && ((decide ((((List.getD x7.1 (Int.toNat (1 : Int)) default).Span).From) = ((bJ.mk (5 : Int) (15 : Int)).From))) && ((decide ((((List.getD x7.1 (Int.toNat (1 : Int)) default).Span).To) = ((bJ.mk (5 : Int) (15 : Int)).To))) && true)))) = true → 0 ≤ (1 : Int) ∧ (1 : Int) < ((List.length x7.1 : Nat) : Int))) <|
  some (((((((((decide (x1.1 = (5 : Int))) && (decide (x1.2 = (0 : Int)))) && (decide (x4.2 = (0 : Int)))) && (decide (((List.length x4.1 : Nat) : Int) = (2 : Int)))) && (decide ((List.getD x4.1 (Int.toNat (1 : Int)) default) = (5 : Int)))) && (decide (x7.2 = (0 : Int)))) && (decide (((List.length x7.1 : Nat) : Int) = (2 : Int)))) && ((decide ((((List.getD x7.1 (Int.toNat (1 : Int)) default).Span).From) = ((bJ.mk (5 : Int) (15 : Int)).From))) && ((decide ((((List.getD x7.1 (Int.toNat (1 : Int)) default).Span).To) = ((bJ.mk (5 : Int) (15 : Int)).To))) && true))) && (decide (((List.length ((List.getD x7.1 (Int.toNat (1 : Int)) default).Rows) : Nat) : Int) = (1 : Int))))

noncomputable def rD  : Option Bool :=
  some true

noncomputable def oJ (a0 : (List aE)) (b1 : (List aE)) (i5 : Int) : Option ((Int) ⊕ (Unit ⊕ Bool)) :=
  cond (decide (i5 < ((List.length a0 : Nat) : Int)))
  (bG (0 ≤ i5 ∧ i5 < ((List.length a0 : Nat) : Int)) <|
  bG (0 ≤ i5 ∧ i5 < ((List.length b1 : Nat) : Int)) <|
  cond (!((decide (((List.getD a0 (Int.toNat i5) default).Kind) = ((List.getD b1 (Int.toNat i5) default).Kind))) && ((decide (((List.getD a0 (Int.toNat i5) default).Num) = ((List.getD b1 (Int.toNat i5) default).Num))) && ((nP ((List.getD a0 (Int.toNat i5) default).Text) ((List.getD b1 (Int.toNat i5) default).Text)) && true))))
  (some (.inr (.inr false)))
  (some (.inl (IntKind.i64.wrap (i5 + (1 : Int))))))
  (some (.inr (.inl ())))

noncomputable def uI (a0 : (List aE)) (b1 : (List aE)) (i5 : Int) : Option Bool :=
  (lp (fun s => oJ a0 b1 s) i5).bind (Sum.elim (fun rr => rD ) (fun rr => some rr))

noncomputable def sN (a0 : (List aE)) (b1 : (List aE)) : Option Bool :=
  cond (!decide (((List.length a0 : Nat) : Int) = ((List.length b1 : Nat) : Int)))
  (some false)
  (uI a0 b1 (0 : Int))

noncomputable def mG  : Option Bool :=
  some true

noncomputable def lA (a0 : (List dR)) (b1 : (List dR)) (i5 : Int) : Option ((Int) ⊕ (Unit ⊕ Bool)) :=
  cond (decide (i5 < ((List.length a0 : Nat) : Int)))
  (bG (0 ≤ i5 ∧ i5 < ((List.length a0 : Nat) : Int)) <|
  bG (0 ≤ i5 ∧ i5 < ((List.length b1 : Nat) : Int)) <|
  bG ((((!(!decide (((List.getD a0 (Int.toNat i5) default).N) = ((List.getD b1 (Int.toNat i5) default).N))))) = true → 0 ≤ i5 ∧ i5 < ((List.length a0 : Nat) : Int))) <|
  bG ((((!(!decide (((List.getD a0 (Int.toNat i5) default).N) = ((List.getD b1 (Int.toNat i5) default).N))))) = true → 0 ≤ i5 ∧ i5 < ((List.length b1 : Nat) : Int))) <|
  (dG (!(!decide (((List.getD a0 (Int.toNat i5) default).N) = ((List.getD b1 (Int.toNat i5) default).N)))) (sN ((List.getD a0 (Int.toNat i5) default).Row) ((List.getD b1 (Int.toNat i5) default).Row))).bind fun x7 =>
  cond ((!decide (((List.getD a0 (Int.toNat i5) default).N) = ((List.getD b1 (Int.toNat i5) default).N))) || (!x7))
  (some (.inr (.inr false)))
  (some (.inl (IntKind.i64.wrap (i5 + (1 : Int))))))
  (some (.inr (.inl ())))

noncomputable def oE (a0 : (List dR)) (b1 : (List dR)) (i5 : Int) : Option Bool :=
  (lp (fun s => lA a0 b1 s) i5).bind (Sum.elim (fun rr => mG ) (fun rr => some rr))

noncomputable def mW (a0 : (List dR)) (b1 : (List dR)) : Option Bool :=
  cond (!decide (((List.length a0 : Nat) : Int) = ((List.length b1 : Nat) : Int)))
  (some false)
  (oE a0 b1 (0 : Int))

noncomputable def qU  : Option Bool :=
  some true

noncomputable def oL (a0 : (List aU)) (b1 : (List aU)) (i5 : Int) : Option ((Int) ⊕ (Unit ⊕ Bool)) :=
  cond (decide (i5 < ((List.length a0 : Nat) : Int)))
  (bG (0 ≤ i5 ∧ i5 < ((List.length a0 : Nat) : Int)) <|
  bG (0 ≤ i5 ∧ i5 < ((List.length b1 : Nat) : Int)) <|
  bG ((((!(!((decide ((((List.getD a0 (Int.toNat i5) default).Span).From) = (((List.getD b1 (Int.toNat i5) default).Span).From))) && ((decide ((((List.getD a0 (Int.toNat i5) default).Span).To) = (((List.getD b1 (Int.toNat i5) default).Span).To))) && true))))) = true → 0 ≤ i5 ∧ i5 < ((List.length a0 : Nat) : Int))) <|
  bG ((((!(!((decide ((((List.getD a0 (Int.toNat i5) default).Span).From) = (((List.getD b1 (Int.toNat i5) default).Span).From))) && ((decide ((((List.getD a0 (Int.toNat i5) default).Span).To) = (((List.getD b1 (Int.toNat i5) default).Span).To))) && true))))) = true → 0 ≤ i5 ∧ i5 < ((List.length b1 : Nat) : Int))) <|
  (dG (!(!((decide ((((List.getD a0 (Int.toNat i5) default).Span).From) = (((List.getD b1 (Int.toNat i5) default).Span).From))) && ((decide ((((List.getD a0 (Int.toNat i5) default).Span).To) = (((List.getD b1 (Int.toNat i5) default).Span).To))) && true)))) (mW ((List.getD a0 (Int.toNat i5) default).Rows) ((List.getD b1 (Int.toNat i5) default).Rows))).bind fun x7 =>
  cond ((!((decide ((((List.getD a0 (Int.toNat i5) default).Span).From) = (((List.getD b1 (Int.toNat i5) default).Span).From))) && ((decide ((((List.getD a0 (Int.toNat i5) default).Span).To) = (((List.getD b1 (Int.toNat i5) default).Span).To))) && true))) || (!x7))
  (some (.inr (.inr false)))
  (some (.inl (IntKind.i64.wrap (i5 + (1 : Int))))))
  (some (.inr (.inl ())))

noncomputable def uC (a0 : (List aU)) (b1 : (List aU)) (i5 : Int) : Option Bool :=
  (lp (fun s => oL a0 b1 s) i5).bind (Sum.elim (fun rr => qU ) (fun rr => some rr))

noncomputable def sE (a0 : (List aU)) (b1 : (List aU)) : Option Bool :=
  cond (!decide (((List.length a0 : Nat) : Int) = ((List.length b1 : Nat) : Int)))
  (some false)
  (uC a0 b1 (0 : Int))

noncomputable def wX (l0 : List aL) : Option (List aL) :=
  some l0

noncomputable def nS (r1 : (List aE)) (t9 : (List aB)) (t10 : Int) (l0 : List aL) (t11 : Int) : Option ((List aL × Int) ⊕ ((List aL))) :=
  cond (decide (t11 < t10))
  (bG (0 ≤ t11 ∧ t11 < ((List.length t9 : Nat) : Int)) <|
  (qF r1).bind fun x7 =>
  bG ((List.length l0 + List.length ([aL.mk x7 ((List.getD t9 (Int.toNat t11) default).At) ((List.getD t9 (Int.toNat t11) default).Net)])) * 40 ≤ 140737488355328 ∧ List.length l0 + List.length ([aL.mk x7 ((List.getD t9 (Int.toNat t11) default).At) ((List.getD t9 (Int.toNat t11) default).Net)]) ≤ 9223372036854775807) <|
  some (.inl (l0 ++ ([aL.mk x7 ((List.getD t9 (Int.toNat t11) default).At) ((List.getD t9 (Int.toNat t11) default).Net)]), IntKind.i64.wrap (t11 + (1 : Int)))))
  (some (.inr l0))

noncomputable def wW (l0 : List aL) (r1 : (List aE)) (t9 : (List aB)) (t10 : Int) (t11 : Int) : Option (List aL) :=
  (lp (fun s => nS r1 t9 t10 s.1 s.2) (l0, t11)).bind (fun rr => wX rr)

noncomputable def vB (l0 : (List aL)) (r1 : (List aE)) (f2 : (List aB)) : Option (List aL) :=
  wW l0 r1 f2 ((List.length f2 : Nat) : Int) (0 : Int)

noncomputable def mK (by1 : (List aB) → Option ((List aB) × Int)) (kS : (List aL)) (t4 : (List aL)) (t5 : Int) (out6 : List aL) (t14 : (List aE)) (t15 : (List aB)) : Option (((List aL) × Int × List aL) ⊕ ((List aL) × Int × List aL)) :=
  (by1 t15).bind fun x8 =>
  cond (!decide (x8.2 = (0 : Int)))
  (some (.inr ([], x8.2, out6)))
  ((vB out6 t14 x8.1).bind fun x12 =>
  cond (decide ((4096 : Int) < ((List.length x12 : Nat) : Int)))
  (some (.inr ([], (7 : Int), x12)))
  (some (.inl (t4, t5, x12))))

noncomputable def sZ (by1 : (List aB) → Option ((List aB) × Int)) (t4 : (List aL)) (t5 : Int) (out6 : List aL) (kS : (List aL)) : Option ((List aL) × Int) :=
  (lU (fun st t14 t15 => rnd (fun (s : (List aL) × Int × List aL) => mK by1 kS s.1 s.2.1 s.2.2 t14 t15) st) kS (.inl (t4, t5, out6))).bind (Sum.elim (fun (s : (List aL) × Int × List aL) =>
  (some (s.2.2, (0 : Int))))
  (fun (s : (List aL) × Int × List aL) =>
  (some (s.1, s.2.1))))

noncomputable def rC (l0 : (List aL)) (by1 : (List aB) → Option ((List aB) × Int)) : Option ((List aL) × Int) :=
  (nR l0).bind fun x5 =>
  sZ by1 ([]) 0 ([] : List aL) x5

noncomputable def vM (l0 : (List aL)) (by1 : (List aB) → Option ((List aB) × Int)) : Option ((List aL) × Int) :=
  (qJ l0).bind fun x1 =>
  cond (!x1)
  (some ([], (2 : Int)))
  ((rC l0 by1).bind fun x5 =>
  some (x5.1, x5.2))

noncomputable def gX (s0 : (List aB)) : Option (List aB) :=
  bG (List.length s0 * 16 ≤ 140737488355328 ∧ List.length s0 ≤ 9223372036854775807) <|
  some s0

noncomputable def rH (f0 : (List aB)) : Option ((List aB) × Int) :=
  (lW f0).bind fun x1 =>
  cond (!x1)
  (some ([], (7 : Int)))
  (some (f0, (0 : Int)))

noncomputable def sS (f0 : (List aB)) (at7 : Int) (out8 : List aB) : Option ((List aB) × Int) :=
  bG (0 ≤ at7 ∧ at7 ≤ ((List.length f0 : Nat) : Int)) <|
  bG ((List.length out8 + List.length (List.drop (Int.toNat at7) f0)) * 16 ≤ 140737488355328 ∧ List.length out8 + List.length (List.drop (Int.toNat at7) f0) ≤ 9223372036854775807) <|
  (rH (out8 ++ (List.drop (Int.toNat at7) f0))).bind fun x18 =>
  some (x18.1, x18.2)

noncomputable def sG (f0 : (List aB)) (v6 : Int) (at7 : Int) : Option ((List aB) × Int) :=
  cond (!decide (v6 = (0 : Int)))
  (bG (List.length ([aB.mk (-1 : Int) v6]) * 16 ≤ 140737488355328 ∧ List.length ([aB.mk (-1 : Int) v6]) ≤ 9223372036854775807) <|
  sS f0 at7 ([aB.mk (-1 : Int) v6]))
  (sS f0 at7 ([] : List aB))

noncomputable def lE (f0 : (List aB)) (t1 : Int) (v6 : Int) (at7 : Int) : Option ((Int × Int) ⊕ ((Int × Int))) :=
  bG ((((decide (at7 < ((List.length f0 : Nat) : Int)))) = true → 0 ≤ at7 ∧ at7 < ((List.length f0 : Nat) : Int))) <|
  cond ((decide (at7 < ((List.length f0 : Nat) : Int))) && (decide (((List.getD f0 (Int.toNat at7) default).At) < t1)))
  (bG (0 ≤ at7 ∧ at7 < ((List.length f0 : Nat) : Int)) <|
  some (.inl (IntKind.i64.wrap (v6 + ((List.getD f0 (Int.toNat at7) default).Net)), IntKind.i64.wrap (at7 + (1 : Int)))))
  (some (.inr (v6, at7)))

noncomputable def vE (f0 : (List aB)) (t1 : Int) (v6 : Int) (at7 : Int) : Option ((List aB) × Int) :=
  (lp (fun s => lE f0 t1 s.1 s.2) (v6, at7)).bind (fun rr => sG f0 rr.1 rr.2)

noncomputable def uA (f0 : (List aB)) (t1 : Int) : Option ((List aB) × Int) :=
  (lW f0).bind fun x1 =>
  cond (!x1)
  (some ([], (2 : Int)))
  (cond (decide ((1125899906842624 : Int) ≤ t1))
  (some ([], (0 : Int)))
  (cond (decide (t1 ≤ (-1 : Int)))
  ((gX f0).bind fun x7 =>
  some (x7, (0 : Int)))
  (vE f0 t1 (0 : Int) (0 : Int))))

noncomputable def oK (f0 : (List aB)) (t1 : Int) : Option ((List aB) × Int) :=
  (uA f0 t1).bind fun x1 =>
  some (x1.1, x1.2)

noncomputable def tS (l0 : (List aL)) (t1 : Int) : Option ((List aL) × Int) :=
  (vM l0 (fun y0 => oK y0 t1)).bind fun x1 =>
  some (x1.1, x1.2)

noncomputable def oN (l0 : (List aL)) (jZ : Int) (vA : Int) (t3 : Int) (dJ : Int) : Option Bool :=
  (sX jZ vA t3).bind fun x1 =>
  cond ((!decide (x1.2 = (0 : Int))) || (decide (t3 < x1.1)))
  ((oA ).bind fun x5 =>
  some x5)
  ((tS l0 x1.1).bind fun x8 =>
  (dG (!((!decide (x8.2 = (0 : Int))) || (decide (x1.1 = (1125899906842624 : Int))))) (pM l0)).bind fun x11 =>
  cond (((!decide (x8.2 = (0 : Int))) || (decide (x1.1 = (1125899906842624 : Int)))) || (!x11))
  ((oA ).bind fun x15 =>
  some x15)
  ((oX l0 jZ vA x1.1 dJ).bind fun x18 =>
  (oX x8.1 jZ vA x1.1 dJ).bind fun x21 =>
  (oA ).bind fun x24 =>
  (dG (x24 && (decide (x18.2 = x21.2))) (sE x18.1 x21.1)).bind fun x27 =>
  some ((x24 && (decide (x18.2 = x21.2))) && x27)))

end Go.Abs
namespace Go.Abs
open Go Go.RowKit
def zH (x : aE) : Prop := uT x.Kind ∧ uT x.Num ∧ (fun s => s.size ≤ maxLen) x.Text ∧ True

def tP (x : aL) : Prop := (fun l => (∀ a ∈ l, zH a) ∧ l.length * 32 ≤ 140737488351232) x.Row ∧ uT x.At ∧ uT x.Net ∧ True

end Go.Abs
namespace Go.Abs
open Go Go.RowKit Go.Proofs
noncomputable def tt : TT := ⟨TU Try.prog, NL Try.prog⟩

theorem aD : fY Try.prog tt := fY.of Try.prog

theorem EE (iO : Int) (hop1 : Int) (r : Bool) (h0 : pV iO hop1 = some r) : dH Try.prog 24 [(eI iO), (eI hop1)] (aC r) := by
  intro H0
  refine dL Try.func24 ?_
  have hO := aK.start H0
  unfold pV at h0
  refine aW aD 1 [] [] ?_
  refine cJ aD 15 [(4, (aC ((((decide ((1 : Int) ≤ iO)) && (decide (iO ≤ (1099511627776 : Int)))) && (decide ((1 : Int) ≤ hop1))) && (decide (hop1 ≤ (1099511627776 : Int))))))] ?_
  refine bI ?_
  obtain rfl := oI h0
  exact aF (Q_r hO)

theorem vQ (t0 : Int) (r : Bool) (h0 : mP t0 = some r) : dH Try.prog 25 [(eI t0)] (aC r) := by
  intro H0
  refine dL Try.func25 ?_
  have hO := aK.start H0
  unfold mP at h0
  refine aW aD 1 [] [] ?_
  refine cJ aD 7 [(2, (aC ((decide ((0 : Int) ≤ t0)) && (decide (t0 ≤ (1125899906842624 : Int))))))] ?_
  refine bI ?_
  obtain rfl := oI h0
  exact aF (Q_r hO)

theorem QX (a0 : Int) (b1 : Int) (r : (Int × Int × Int)) (h0 : tO a0 b1 = some r) : dH Try.prog 53 [(eI a0), (eI b1)] (.tup [(eI r.1), (eI r.2.1), (eI r.2.2)]) := by
  intro H0
  refine dL Try.func53 ?_
  have hO := aK.start H0
  unfold tO at h0
  refine aW aD 3 [] [] ?_
  refine aM ?_
  refine aW aD 2 [] [(10, (aC (decide (b1 < (1 : Int)))))] ?_
  refine bQ h0 (fun h0 => ?_) (fun h0 => ?_)
  · refine cJ aD 3 [(4, (eI (0 : Int))), (5, (eI (0 : Int))), (6, (eI (2 : Int)))] ?_
    refine bI ?_
    obtain rfl := oI h0
    exact aF (aR (Q_r hO))
  refine bR ?_
  refine bC [(0, (eI a0)), (1, (eI b1))] ?_
  refine aM ?_
  refine gI (gH []) aD 8 ?_
  obtain ⟨c2, h0⟩ := aZ h0
  obtain ⟨c3, h0⟩ := aZ h0
  refine JF (Ds := [b1 ≠ 0, b1 ≠ 0]) (by kernel_rfl) ⟨c2, c3, trivial⟩ ?_
  refine bU [0] [(7, (eI (wR (Int.tdiv a0 b1)))), (8, (eI (Int.tmod a0 b1)))] ?_
  refine iI (fun T H => ∃ q7 : Int, ∃ r8 : Int, Has T [(7, (eI q7)), (8, (eI r8))] ∧ aK ⟨H0, [], []⟩ H [] ∧ sJ q7 r8 = some r) ?_ ?_
  · clear hO h0
    rintro T H ⟨q7, r8, hT, hO, h0⟩
    refine bK hT ?_
    clear hT
    unfold sJ at h0
    refine cJ aD 5 [(4, (eI q7)), (5, (eI r8)), (6, (eI (0 : Int)))] ?_
    refine bI ?_
    obtain rfl := oI h0
    exact aF (Q_r hO)
  refine aW aD 2 [] [(18, (aC (decide ((Int.tmod a0 b1) < (0 : Int)))))] ?_
  refine bQ h0 (fun h0 => ?_) (fun h0 => ?_)
  · refine aS aD 7 ?_
    refine bA ?_
    exact aF (aJ (⟨rfl, _, _, .eq (by kernel_rfl), hO, h0⟩))
  refine bR ?_
  exact aF (aJ (⟨rfl, _, _, .eq (by kernel_rfl), hO, h0⟩))

theorem yT (hop0 : Int) (n1 : Int) (r : Int) (h0 : oC hop0 n1 = some r) : dH Try.prog 26 [(eI hop0), (eI n1)] (eI r) := by
  intro H0
  refine dL Try.func26 ?_
  have hO := aK.start H0
  unfold oC at h0
  refine aW aD 1 [] [] ?_
  refine aM ?_
  refine aW aD 2 [] [(9, (aC (decide (n1 < (0 : Int)))))] ?_
  refine bQ h0 (fun h0 => ?_) (fun h0 => ?_)
  · refine cJ aD 1 [(4, (eI (0 : Int)))] ?_
    refine bI ?_
    obtain rfl := oI h0
    exact aF (aR (Q_r hO))
  refine bR ?_
  refine bC [(0, (eI hop0)), (1, (eI n1))] ?_
  refine aM ?_
  refine aS aD 10 ?_
  refine bN 2 ?_
  obtain ⟨x2, hx3, h0⟩ := aV h0
  refine dX (QX n1 hop0 _ hx3) hO ?_
  intro H hO
  refine bA ?_
  refine bU [1] [(5, (eI x2.1))] ?_
  refine cJ aD 5 [(4, (eI (wR ((wR (x2.1 + (1 : Int))) * hop0))))] ?_
  refine bI ?_
  obtain rfl := oI h0
  exact aF (Q_r hO)

theorem GZ (iO : Int) (hop1 : Int) (t2 : Int) (r : (Int × Int)) (h0 : sX iO hop1 t2 = some r) : dH Try.prog 9 [(eI iO), (eI hop1), (eI t2)] (.tup [(eI r.1), (eI r.2)]) := by
  intro H0
  refine dL Try.func9 ?_
  have hO := aK.start H0
  unfold sX at h0
  refine aW aD 2 [] [] ?_
  refine aM ?_
  refine cC 0 ?_
  refine aM ?_
  refine aS aD 5 ?_
  refine bN 2 ?_
  obtain ⟨x1, hx2, h0⟩ := aV h0
  refine dX (EE iO hop1 _ hx2) hO ?_
  intro H hO
  refine bA ?_
  refine bU [] [(8, (aC (!x1)))] ?_
  refine bQ h0 (fun h0 => ?_) (fun h0 => ?_)
  · refine cJ aD 2 [(6, (eI (0 : Int))), (7, (eI (2 : Int)))] ?_
    refine bI ?_
    obtain rfl := oI h0
    exact aF (bD (aR (Q_r hO)))
  refine aM ?_
  refine aS aD 4 ?_
  refine bN 1 ?_
  obtain ⟨x5, hx6, h0⟩ := aV h0
  refine dX (vQ t2 _ hx6) hO ?_
  intro H hO
  refine bA ?_
  refine bU [8] [(13, (aC (!x5)))] ?_
  refine bQ h0 (fun h0 => ?_) (fun h0 => ?_)
  · refine cJ aD 2 [(6, (eI (0 : Int))), (7, (eI (13 : Int)))] ?_
    refine bI ?_
    obtain rfl := oI h0
    exact aF (bD (aR (Q_r hO)))
  refine aW aD 3 [13] [(17, (aC (decide (t2 = (1125899906842624 : Int)))))] ?_
  refine bQ h0 (fun h0 => ?_) (fun h0 => ?_)
  · refine cJ aD 2 [(6, (eI (1125899906842624 : Int))), (7, (eI (0 : Int)))] ?_
    refine bI ?_
    obtain rfl := oI h0
    exact aF (bD (aR (Q_r hO)))
  refine bR ?_
  refine fC [(0, (eI iO)), (1, (eI hop1)), (2, (eI t2))] ?_
  refine aF (aX (aJ (?_)))
  refine aM ?_
  refine aS aD 8 ?_
  refine bN 4 ?_
  obtain ⟨x10, hx11, h0⟩ := aV h0
  refine dX (yT hop1 (wR (t2 - iO)) _ hx11) hO ?_
  intro H hO
  refine bA ?_
  refine bC [(6, (eI (if (1125899906842624 : Int) < x10 then (1125899906842624 : Int) else x10))), (7, (eI (0 : Int)))] ?_
  refine bI ?_
  obtain rfl := oI h0
  exact aF (Q_r hO)

theorem DZ (iO : Int) (hop1 : Int) (s2 : bJ) (iH : Int) (dJ : Int) (r : (Int × bJ × Int × Int × Int)) (h0 : pL iO hop1 s2 iH dJ = some r) : dH Try.prog 30 [(eI iO), (eI hop1), (bX s2), (eI iH), (eI dJ)] (.fn (.func 54) [] [(.rp (eI r.1)), (.rp (bX r.2.1)), (.rp (eI r.2.2.1)), (.rp (eI r.2.2.2.1)), (.rp (eI r.2.2.2.2))]) := by
  intro H0
  refine dL Try.func30 ?_
  have hO := aK.start H0
  unfold pL at h0
  refine aM ?_
  refine aS aD 6 ?_
  refine gM 1 (eI iO) (by kernel_rfl) (by kernel_rfl) ?_
  refine gM 1 (eI hop1) (by kernel_rfl) (by kernel_rfl) ?_
  refine gM 2 (bX s2) (by kernel_rfl) (by kernel_rfl) ?_
  refine gM 1 (eI iH) (by kernel_rfl) (by kernel_rfl) ?_
  refine gM 1 (eI dJ) (by kernel_rfl) (by kernel_rfl) ?_
  refine bA ?_
  refine bC [(5, (.rp (eI iO))), (6, (.rp (eI hop1))), (7, (.rp (bX s2))), (8, (.rp (eI iH))), (9, (.rp (eI dJ)))] ?_
  refine cJ aD 2 [(10, (.fn (.func 54) [] [(.rp (eI hop1)), (.rp (bX s2)), (.rp (eI iO)), (.rp (eI iH)), (.rp (eI dJ))]))] ?_
  refine bI ?_
  obtain rfl := oI h0
  exact aF (kY (x := (.fn (.func 54) [] [(.rp (eI hop1)), (.rp (bX s2)), (.rp (eI iO)), (.rp (eI iH)), (.rp (eI dJ))])) (by kernel_rfl) (aN.refl _) ⟨rfl, hO.out⟩)

theorem yL {σ : Type} (I : σ → Gs → Prop) (yield0_b : Nat) (cK : σ → Int → Option (σ × Bool)) (yield0_h : ∀ st a0 st2 r, cK st a0 = some (st2, r) → xT Try.prog (yv yield0_b) I st [(eI a0)] st2 (aC r)) (t1 : Int) (t2 : bJ) (t3 : Int) (t4 : Int) (t5 : Int) (sg0 : σ) (r : σ) (h0 : mI cK t1 t2 t3 t4 t5 sg0 = some r) : uJ Try.prog 54 I sg0 [(yv yield0_b), (.rp (eI t1)), (.rp (bX t2)), (.rp (eI t3)), (.rp (eI t4)), (.rp (eI t5))] r (.tup []) := by
  intro H0 G0 hI hg
  refine dL Try.func54 ?_
  obtain ⟨G, hO, hI⟩ : ∃ G, aK ⟨H0, List.map (fun p : Nat × cT => p.1) G0, G⟩ H0 [] ∧ I sg0 G := ⟨G0, aK.AL hg, hI⟩
  clear hg
  unfold mI at h0
  refine aM ?_
  refine gI (gH [9, 11, 12, 14, 15, 16, 18]) aD 12 ?_
  refine lR 5 ?_
  obtain ⟨x1, hx2, h0⟩ := aV h0
  refine yZ (yT t1 (wR (t2.From - t3)) _ hx2) hO ?_
  intro H hO
  refine lR 9 ?_
  obtain ⟨x4, hx5, h0⟩ := aV h0
  refine yZ (yT t1 (wR (t4 - (1 : Int))) _ hx5) hO ?_
  intro H hO
  refine kM ?_
  refine bU [3, 4] [(7, (eI (if x4 > x1 then x4 else x1)))] ?_
  refine aW aD 2 [7] [(8, (eI (if x4 > x1 then x4 else x1)))] ?_
  refine cC 0 ?_
  refine fQ [(0, (yv yield0_b)), (1, (.rp (eI t1))), (2, (.rp (bX t2))), (5, (.rp (eI t5))), (8, (eI (if x4 > x1 then x4 else x1)))] ?_
  refine fV (fun T H => ∃ sg : σ, ∃ t8 : Int, ∃ G : Gs, Has T [(0, (yv yield0_b)), (1, (.rp (eI t1))), (2, (.rp (bX t2))), (5, (.rp (eI t5))), (8, (eI t8))] ∧ aK ⟨H0, List.map (fun p : Nat × cT => p.1) G0, G⟩ H [] ∧ I sg G ∧ nK cK sg t1 t2 t5 t8 = some r) ?_ ⟨sg0, if x4 > x1 then x4 else x1, G, .eq (by kernel_rfl), hO, hI, h0⟩
  clear hO hI h0
  rintro T H ⟨sg, t8, G, hT, hO, hI, h0⟩
  refine bK hT ?_
  clear hT
  unfold nK at h0
  obtain ⟨rr0, hl0, h0⟩ := aV h0
  refine dV (by kernel_rfl) (fun (s : σ × Int) T H => ∃ G : Gs, Has T [(0, (yv yield0_b)), (1, (.rp (eI t1))), (2, (.rp (bX t2))), (5, (.rp (eI t5))), (8, (eI s.2))] ∧ aK ⟨H0, List.map (fun p : Nat × cT => p.1) G0, G⟩ H [] ∧ I s.1 G) hl0 ⟨G, .eq (by kernel_rfl), hO, hI⟩ ?_
  clear hO hI
  rintro k0 s out1 T H ⟨G, hT, hO, hI⟩ h1 ho0
  obtain ⟨sg, t8⟩ := s
  replace h1 : iX cK t1 t2 t5 sg t8 = some out1 := h1
  try dsimp only at hT
  refine bK hT ?_
  clear hT
  unfold iX at h1
  refine aM ?_
  refine aW aD 6 [] [(26, (aC (decide (t8 < (if (1125899906842624 : Int) < (if t5 < t2.To then t5 else t2.To) then (1125899906842624 : Int) else (if t5 < t2.To then t5 else t2.To))))))] ?_
  refine bQ h1 (fun h1 => ?_) (fun h1 => ?_)
  · refine bR ?_
    refine bC [(0, (yv yield0_b)), (1, (.rp (eI t1))), (2, (.rp (bX t2))), (5, (.rp (eI t5))), (8, (eI t8))] ?_
    refine aM ?_
    refine cC 1 ?_
    refine aM ?_
    refine aS aD 4 ?_
    refine bN 2 ?_
    obtain ⟨x8, hx9, h1⟩ := aV h1
    refine EP (I := I) (yv yield0_b) [(eI t8)] (aC x8.2) (by kernel_rfl) (by kernel_rfl) (yield0_h _ t8 x8.1 x8.2 hx9) hO hI ?_
    intro G H hO hI
    refine bA ?_
    refine bU [] [(33, (aC (!x8.2)))] ?_
    refine bQ h1 (fun h1 => ?_) (fun h1 => ?_)
    · refine bI ?_
      obtain rfl := oI h1
      obtain rfl : _ = rr0 := ho0
      replace h0 : some x8.1 = some r := h0
      obtain rfl := oI h0
      exact aF (bD (aR (aR (bD (kY (x := (.tup [])) (by kernel_rfl) (aN.refl _) ⟨rfl, G, hI, hO.wK⟩)))))
    refine bR ?_
    refine fC [(0, (yv yield0_b)), (1, (.rp (eI t1))), (2, (.rp (bX t2))), (5, (.rp (eI t5))), (8, (eI t8))] ?_
    refine aF (aX (aJ (?_)))
    refine aS aD 4 ?_
    refine bA ?_
    exact aF (aJ (⟨rfl, _, (oI h1).symm, _, .eq (by kernel_rfl), hO, hI⟩))
  refine jD 0 ?_
  obtain rfl := oI h1
  obtain rfl : _ = rr0 := ho0
  replace h0 : some sg = some r := h0
  obtain rfl := oI h0
  exact aF (aY (aY (cD (vW (x := (.tup [])) (by kernel_rfl) (aN.refl _) ⟨rfl, G, hI, hO.wK⟩))))

theorem QH (iO : Int) (hop1 : Int) (s2 : bJ) (iH : Int) (dJ : Int) (r : ((List Int) × Int)) (h0 : sP iO hop1 s2 iH dJ = some r) : dH Try.prog 12 [(eI iO), (eI hop1), (bX s2), (eI iH), (eI dJ)] (.tup [(eL (eI) r.1), (eI r.2)]) := by
  intro H0
  refine yK aD Try.func12 (by kernel_rfl) (by kernel_rfl) (by kernel_rfl) ?_
  have hO := aK.start H0
  unfold sP at h0
  refine aM ?_
  refine aS aD 3 ?_
  refine gM 2 (bX s2) (by kernel_rfl) (by kernel_rfl) ?_
  refine wD 1 (.sl true 0 (fun _ => .bad)) (eL (eI) ([])) (by kernel_rfl) (by kernel_rfl) (by kernel_rfl) (kE) (by kernel_rfl) (by kernel_rfl) hO ?_
  intro lo1 H hO
  refine jS 1 (eI 0) (by kernel_rfl) (by kernel_rfl) hO ?_
  intro lo2 H hO
  refine dK ?_
  refine bU [2] [(7, (.rp (bX s2))), (10, (.lp lo1 0 0)), (11, (.lp lo2 0 0))] ?_
  refine aM ?_
  refine cC 0 ?_
  refine aM ?_
  refine aS aD 5 ?_
  refine bN 2 ?_
  obtain ⟨x3, hx4, h0⟩ := aV h0
  refine dX (EE iO hop1 _ hx4) hO ?_
  intro H hO
  refine bA ?_
  refine bU [] [(14, (aC (!x3)))] ?_
  refine bQ h0 (fun h0 => ?_) (fun h0 => ?_)
  · refine aM ?_
    refine aS aD 2 ?_
    refine fX 0 lo1 1 0 (eL (eI) ([])) (.sl true 0 (fun _ => .bad)) [(eL (eI) ([]))] [(lo1, 1, [(.sl true 0 (fun _ => .bad))]), (lo2, 1, [(eI 0)])] hO rfl (by kernel_rfl) ?_
    intro H hO
    refine fX 1 lo2 1 0 (eI 0) (eI (2 : Int)) [(eI 0)] [(lo1, 1, [(.sl true 0 (fun _ => .bad))]), (lo2, 1, [(eI (2 : Int))])] hO rfl (by kernel_rfl) ?_
    intro H hO
    refine dK ?_
    refine pG 0 lo1 1 (.sl true 0 (fun _ => .bad)) (eL (eI) ([])) [(lo1, 1, [(eL (eI) ([]))]), (lo2, 1, [(eI (2 : Int))])] hO (by kernel_rfl) (by kernel_rfl) kE (by kernel_rfl) ?_
    intro H hO
    refine bC [(10, (.lp lo1 0 0)), (11, (.lp lo2 0 0))] ?_
    refine bI ?_
    obtain rfl := oI h0
    exact aF (bD (aR (QM0 (.inr rfl) (rs := [.cell 10 30, .cell 11 22]) (xs := [(eL (eI) ([])), (eI (2 : Int))]) (x := (.tup [(eL (eI) ([])), (eI (2 : Int))])) (by kernel_rfl) (fL (lo := lo1) (k := 1) (y := (eL (eI) ([]))) (x := (eL (eI) ([]))) 0 hO (by kernel_rfl) (by kernel_rfl) (by kernel_rfl) (by kernel_rfl) (fL (lo := lo2) (k := 1) (y := (eI (2 : Int))) (x := (eI (2 : Int))) 1 hO (by kernel_rfl) (by kernel_rfl) (by kernel_rfl) (by kernel_rfl) lM)) (by kernel_rfl) ⟨rfl, hO.out⟩)))
  refine aM ?_
  refine aS aD 9 ?_
  refine bN 1 ?_
  obtain ⟨x7, hx8, h0⟩ := aV h0
  refine dX (vQ iH _ hx8) hO ?_
  intro H hO
  refine bN 5 ?_
  obtain ⟨x10, hx11, h0⟩ := aV h0
  refine nB [(23, false)] 25 [(eI dJ)] (aC x10) (!(!x7)) (by kernel_rfl) (by kernel_rfl) (by kernel_rfl) (fun hb12 => (vQ dJ _ (jN hx11 hb12))) hO ?_
  intro H hO
  refine bA ?_
  refine bU [14] [(19, (aC ((!x7) || (!x10))))] ?_
  refine bQ h0 (fun h0 => ?_) (fun h0 => ?_)
  · refine aM ?_
    refine aS aD 2 ?_
    refine fX 0 lo1 1 0 (eL (eI) ([])) (.sl true 0 (fun _ => .bad)) [(eL (eI) ([]))] [(lo1, 1, [(.sl true 0 (fun _ => .bad))]), (lo2, 1, [(eI 0)])] hO rfl (by kernel_rfl) ?_
    intro H hO
    refine fX 1 lo2 1 0 (eI 0) (eI (13 : Int)) [(eI 0)] [(lo1, 1, [(.sl true 0 (fun _ => .bad))]), (lo2, 1, [(eI (13 : Int))])] hO rfl (by kernel_rfl) ?_
    intro H hO
    refine dK ?_
    refine pG 0 lo1 1 (.sl true 0 (fun _ => .bad)) (eL (eI) ([])) [(lo1, 1, [(eL (eI) ([]))]), (lo2, 1, [(eI (13 : Int))])] hO (by kernel_rfl) (by kernel_rfl) kE (by kernel_rfl) ?_
    intro H hO
    refine bC [(10, (.lp lo1 0 0)), (11, (.lp lo2 0 0))] ?_
    refine bI ?_
    obtain rfl := oI h0
    exact aF (bD (aR (QM0 (.inr rfl) (rs := [.cell 10 30, .cell 11 22]) (xs := [(eL (eI) ([])), (eI (13 : Int))]) (x := (.tup [(eL (eI) ([])), (eI (13 : Int))])) (by kernel_rfl) (fL (lo := lo1) (k := 1) (y := (eL (eI) ([]))) (x := (eL (eI) ([]))) 0 hO (by kernel_rfl) (by kernel_rfl) (by kernel_rfl) (by kernel_rfl) (fL (lo := lo2) (k := 1) (y := (eI (13 : Int))) (x := (eI (13 : Int))) 1 hO (by kernel_rfl) (by kernel_rfl) (by kernel_rfl) (by kernel_rfl) lM)) (by kernel_rfl) ⟨rfl, hO.out⟩)))
  refine aW aD 16 [19] [(28, (aC (((decide (s2.From < (-1 : Int))) || (decide (s2.To ≤ s2.From))) || (decide ((1125899906842624 : Int) < s2.To)))))] ?_
  refine bQ h0 (fun h0 => ?_) (fun h0 => ?_)
  · refine aM ?_
    refine aS aD 2 ?_
    refine fX 0 lo1 1 0 (eL (eI) ([])) (.sl true 0 (fun _ => .bad)) [(eL (eI) ([]))] [(lo1, 1, [(.sl true 0 (fun _ => .bad))]), (lo2, 1, [(eI 0)])] hO rfl (by kernel_rfl) ?_
    intro H hO
    refine fX 1 lo2 1 0 (eI 0) (eI (14 : Int)) [(eI 0)] [(lo1, 1, [(.sl true 0 (fun _ => .bad))]), (lo2, 1, [(eI (14 : Int))])] hO rfl (by kernel_rfl) ?_
    intro H hO
    refine dK ?_
    refine pG 0 lo1 1 (.sl true 0 (fun _ => .bad)) (eL (eI) ([])) [(lo1, 1, [(eL (eI) ([]))]), (lo2, 1, [(eI (14 : Int))])] hO (by kernel_rfl) (by kernel_rfl) kE (by kernel_rfl) ?_
    intro H hO
    refine bC [(10, (.lp lo1 0 0)), (11, (.lp lo2 0 0))] ?_
    refine bI ?_
    obtain rfl := oI h0
    exact aF (bD (aR (QM0 (.inr rfl) (rs := [.cell 10 30, .cell 11 22]) (xs := [(eL (eI) ([])), (eI (14 : Int))]) (x := (.tup [(eL (eI) ([])), (eI (14 : Int))])) (by kernel_rfl) (fL (lo := lo1) (k := 1) (y := (eL (eI) ([]))) (x := (eL (eI) ([]))) 0 hO (by kernel_rfl) (by kernel_rfl) (by kernel_rfl) (by kernel_rfl) (fL (lo := lo2) (k := 1) (y := (eI (14 : Int))) (x := (eI (14 : Int))) 1 hO (by kernel_rfl) (by kernel_rfl) (by kernel_rfl) (by kernel_rfl) lM)) (by kernel_rfl) ⟨rfl, hO.out⟩)))
  refine bR ?_
  refine fC [(0, (eI iO)), (1, (eI hop1)), (3, (eI iH)), (4, (eI dJ)), (7, (.rp (bX s2))), (10, (.lp lo1 0 0)), (11, (.lp lo2 0 0))] ?_
  refine aF (aX (aJ (?_)))
  refine aM ?_
  refine aS aD 3 ?_
  refine uH (xs := []) (k := 1) (by kernel_rfl) (by kernel_rfl) ?_
  refine wD 1 (.sl true 0 (fun _ => .bad)) (eL (eI) ([])) (by kernel_rfl) (by kernel_rfl) (by kernel_rfl) (kE) (by kernel_rfl) (by kernel_rfl) hO ?_
  intro lo15 H hO
  refine WB 44 1 (fun _ => .bad) (by kernel_rfl) hO (by kernel_rfl) ?_
  intro lo16 H hO
  refine fX 2 lo15 1 0 (eL (eI) ([])) (.msl 1 lo16 0 (List.length ([] : List Int))) [(eL (eI) ([]))] [(lo1, 1, [(eL (eI) ([]))]), (lo2, 1, [(eI 0)]), (lo15, 1, [(.msl 1 lo16 0 (List.length ([] : List Int)))]), (lo16, 1, List.map (eI) ([] : List Int))] hO rfl (by kernel_rfl) ?_
  intro H hO
  refine dK ?_
  refine bU [] [(12, (.lp lo15 0 0))] ?_
  refine aM ?_
  refine aM ?_
  refine aS aD 6 ?_
  refine bN 5 ?_
  obtain ⟨x17, hx18, h0⟩ := aV h0
  refine dX (DZ iO hop1 s2 iH dJ _ hx18) hO ?_
  intro H hO
  refine dK ?_
  refine bU [0, 1, 3, 4, 7] [(50, (.fn (.func 54) [] [(.rp (eI x17.1)), (.rp (bX x17.2.1)), (.rp (eI x17.2.2.1)), (.rp (eI x17.2.2.2.1)), (.rp (eI x17.2.2.2.2))]))] ?_
  refine cC 1 ?_
  refine fQ [(10, (.lp lo1 0 0)), (11, (.lp lo2 0 0)), (12, (.lp lo15 0 0)), (50, (.fn (.func 54) [] [(.rp (eI x17.1)), (.rp (bX x17.2.1)), (.rp (eI x17.2.2.1)), (.rp (eI x17.2.2.2.1)), (.rp (eI x17.2.2.2.2))]))] ?_
  refine fV (fun T H => ∃ t10 : (List Int), ∃ t11 : Int, ∃ iA : List Int, ∃ tD : Int, ∃ tJ : bJ, ∃ tG : Int, ∃ tE : Int, ∃ tF : Int, ∃ lo19 : Nat, Has T [(10, (.lp lo1 0 0)), (11, (.lp lo2 0 0)), (12, (.lp lo15 0 0)), (50, (.fn (.func 54) [] [(.rp (eI tD)), (.rp (bX tJ)), (.rp (eI tG)), (.rp (eI tE)), (.rp (eI tF))]))] ∧ aK ⟨H0, [], []⟩ H [(lo1, 1, [(eL (eI) t10)]), (lo2, 1, [(eI t11)]), (lo15, 1, [(.msl 1 lo19 0 (List.length iA))]), (lo19, 1, List.map (eI) iA)] ∧ uK t10 t11 iA tD tJ tG tE tF = some r) ?_ ⟨[], 0, ([] : List Int), x17.1, x17.2.1, x17.2.2.1, x17.2.2.2.1, x17.2.2.2.2, lo16, .eq (by kernel_rfl), hO, h0⟩
  clear hO h0
  rintro T H ⟨t10, t11, iA, tD, tJ, tG, tE, tF, lo19, hT, hO, h0⟩
  refine bK (l := [(10, (.lp lo1 0 0)), (11, (.lp lo2 0 0)), (12, (.lp lo15 0 0)), (50, (.fn (.func 54) [] [(.rp (eI tD)), (.rp (bX tJ)), (.rp (eI tG)), (.rp (eI tE)), (.rp (eI tF))]))]) hT ?_
  clear hT
  unfold uK at h0
  obtain ⟨o0, hl0, h0⟩ := aV h0
  refine wO (fid := 54) (ys := []) (cs := [(.rp (eI tD)), (.rp (bX tJ)), (.rp (eI tG)), (.rp (eI tE)), (.rp (eI tF))]) #[51] (fun (A : qO) (b lL : Nat) (st : ((List Int) × Int × List Int) ⊕ ((List Int) × Int × List Int)) (G' : Gs) => Sum.elim (fun (s : (List Int) × Int × List Int) => ∃ lo19 : Nat, G' = (lL, .raw (fN b A .ready none)) :: (up [(lo1, 1, [(eL (eI) s.1)]), (lo2, 1, [(eI s.2.1)]), (lo15, 1, [(.msl 1 lo19 0 (List.length s.2.2))]), (lo19, 1, List.map (eI) s.2.2)] ++ [])) (fun (s : (List Int) × Int × List Int) => ∃ lo19 : Nat, G' = (lL, .raw (fN b A .done (some .ret))) :: (up [(lo1, 1, [(eL (eI) s.1)]), (lo2, 1, [(eI s.2.1)]), (lo15, 1, [(.msl 1 lo19 0 (List.length s.2.2))]), (lo19, 1, List.map (eI) s.2.2)] ++ [])) st) (.inl (t10, t11, iA)) o0 (.tup []) (by kernel_rfl) (by kernel_rfl) (by kernel_rfl) hO (fun _ _ => ⟨lo19, rfl⟩) ?_ ?_
  · intro b lL
    clear hO h0
    refine yL _ b (fun st t51 => rnd (fun (s : (List Int) × Int × List Int) => lJ tD tJ tG tE tF s.1 s.2.1 s.2.2 t51) st) ?_ tD tJ tG tE tF _ _ hl0
    intro st t51 out1 rr hr
    obtain ⟨s, rfl, h1, rfl⟩ := GO hr
    clear hr
    intro Hr Gr hi hg
    obtain ⟨t10, t11, iA⟩ := s
    dsimp only [Sum.elim_inl] at hi
    obtain ⟨lo19, rfl⟩ := hi
    replace h1 : lJ tD tJ tG tE tF t10 t11 iA t51 = some out1 := h1
    unfold lJ at h1
    obtain ⟨E1, hE, hO⟩ := oY hg
    refine pH (uM (hO.gm 0 _ rfl).2 (by kernel_rfl) (by kernel_rfl) ?_)
    refine fQ [(10, (.lp lo1 0 0)), (11, (.lp lo2 0 0)), (12, (.lp lo15 0 0)), (50, (.fn (.func 54) [] [(.rp (eI tD)), (.rp (bX tJ)), (.rp (eI tG)), (.rp (eI tE)), (.rp (eI tF))])), (51, (eI t51))] ?_
    refine aS aD 1 ?_
    refine bA ?_
    refine fC [(10, (.lp lo1 0 0)), (11, (.lp lo2 0 0)), (12, (.lp lo15 0 0)), (13, (eI t51))] ?_
    refine aF (⟨rfl, rfl, (hO.gm 0 _ rfl).2, ?_⟩)
    intro o1 ho1
    replace hO := hO.mX o1
    refine cC 2 ?_
    refine aM ?_
    refine aM ?_
    refine aS aD 3 ?_
    refine mO 2 lo15 1 0 (.msl 1 lo19 0 (List.length iA)) (.msl 1 lo19 0 (List.length iA)) [(.msl 1 lo19 0 (List.length iA))] hO rfl ?_
    refine bA ?_
    refine bU [] [(54, (aC (decide ((lN iA) = (1024 : Int)))))] ?_
    refine bQ h1 (fun h1 => ?_) (fun h1 => ?_)
    · refine aM ?_
      refine aS aD 2 ?_
      refine fX 0 lo1 1 0 (eL (eI) t10) (.sl true 0 (fun _ => .bad)) [(eL (eI) t10)] [(lo1, 1, [(.sl true 0 (fun _ => .bad))]), (lo2, 1, [(eI t11)]), (lo15, 1, [(.msl 1 lo19 0 (List.length iA))]), (lo19, 1, List.map (eI) iA)] hO rfl (by kernel_rfl) ?_
      intro H hO
      refine fX 1 lo2 1 0 (eI t11) (eI (7 : Int)) [(eI t11)] [(lo1, 1, [(.sl true 0 (fun _ => .bad))]), (lo2, 1, [(eI (7 : Int))]), (lo15, 1, [(.msl 1 lo19 0 (List.length iA))]), (lo19, 1, List.map (eI) iA)] hO rfl (by kernel_rfl) ?_
      intro H hO
      refine dK ?_
      refine pG 0 lo1 1 (.sl true 0 (fun _ => .bad)) (eL (eI) ([])) [(lo1, 1, [(eL (eI) ([]))]), (lo2, 1, [(eI (7 : Int))]), (lo15, 1, [(.msl 1 lo19 0 (List.length iA))]), (lo19, 1, List.map (eI) iA)] hO (by kernel_rfl) (by kernel_rfl) kE (by kernel_rfl) ?_
      intro H hO
      refine bC [(10, (.lp lo1 0 0)), (11, (.lp lo2 0 0)), (12, (.lp lo15 0 0))] ?_
      refine bI ?_
      refine fC [(10, (.lp lo1 0 0)), (11, (.lp lo2 0 0)), (12, (.lp lo15 0 0))] ?_
      obtain rfl := oI h1
      exact aF (aR (bD (⟨(dB hO hE ho1 .dead).1, rfl, _, ⟨lo19, rfl⟩, (dB hO hE ho1 _).2⟩)))
    refine bR ?_
    refine bC [(10, (.lp lo1 0 0)), (11, (.lp lo2 0 0)), (12, (.lp lo15 0 0)), (13, (eI t51))] ?_
    refine aS aD 5 ?_
    refine mO 2 lo15 1 0 (.msl 1 lo19 0 (List.length iA)) (.msl 1 lo19 0 (List.length iA)) [(.msl 1 lo19 0 (List.length iA))] hO rfl ?_
    refine bN 2 ?_
    refine uH (xs := [(eI t51)]) (k := 1) (by kernel_rfl) (by kernel_rfl) ?_
    obtain ⟨c22, h1⟩ := aZ h1
    refine AV (e := (eI)) iA ([t51]) 3 lo19 1 8 (iD [(eI t51)]) (fun lo21 => [(lo1, 1, [(eL (eI) t10)]), (lo2, 1, [(eI t11)]), (lo15, 1, [(.msl 1 lo19 0 (List.length iA))]), (lo21, 1, List.map (eI) (iA ++ ([t51])))]) (by kernel_rfl) (by kernel_rfl) hO (by kernel_rfl) (by kernel_rfl) c22 (fun _ => by kernel_rfl) ?_
    intro lo21 H hO
    refine fX 2 lo15 1 0 (.msl 1 lo19 0 (List.length iA)) (.msl 1 lo21 0 (List.length (iA ++ ([t51])))) [(.msl 1 lo19 0 (List.length iA))] [(lo1, 1, [(eL (eI) t10)]), (lo2, 1, [(eI t11)]), (lo15, 1, [(.msl 1 lo21 0 (List.length (iA ++ ([t51]))))]), (lo21, 1, List.map (eI) (iA ++ ([t51])))] hO rfl (by kernel_rfl) ?_
    intro H hO
    refine dK ?_
    refine fC [(10, (.lp lo1 0 0)), (11, (.lp lo2 0 0)), (12, (.lp lo15 0 0))] ?_
    obtain rfl := oI h1
    exact aF (aX (⟨(dB hO hE ho1 .dead).1, rfl, _, ⟨lo21, rfl⟩, (dB hO hE ho1 _).2⟩))
  · intro b lD23 lL H' G' hi hO
    rcases o0 with s | s
    · dsimp only [Sum.elim_inl] at hi
      obtain ⟨lo19, rfl⟩ := hi
      replace h0 : (some (s.2.2, (0 : Int))) = some r := h0
      obtain ⟨hlL, hO⟩ := lH hO
      refine ⟨_, _, hlL, (by intro e; cases e), ?_⟩
      refine fC [(10, (.lp lo1 0 0)), (11, (.lp lo2 0 0)), (12, (.lp lo15 0 0))] ?_
      refine aF (aX (aJ (?_)))
      refine aM ?_
      refine IS (e := (eI)) s.2.2 2 3 1 1 lo15 lo19 (List.length s.2.2) [(lo1, 1, [(eL (eI) s.1)]), (lo2, 1, [(eI s.2.1)]), (lo15, 1, [(eL (eI) s.2.2)])] hO (by kernel_rfl) (by kernel_rfl) (by kernel_rfl) (.inr (by decide)) (by kernel_rfl) ?_
      intro H hO
      refine aS aD 3 ?_
      refine mO 2 lo15 1 0 (eL (eI) s.2.2) (eL (eI) s.2.2) [(eL (eI) s.2.2)] hO rfl ?_
      refine fX 0 lo1 1 0 (eL (eI) s.1) (eL (eI) s.2.2) [(eL (eI) s.1)] [(lo1, 1, [(eL (eI) s.2.2)]), (lo2, 1, [(eI s.2.1)]), (lo15, 1, [(eL (eI) s.2.2)])] hO rfl (by kernel_rfl) ?_
      intro H hO
      refine fX 1 lo2 1 0 (eI s.2.1) (eI (0 : Int)) [(eI s.2.1)] [(lo1, 1, [(eL (eI) s.2.2)]), (lo2, 1, [(eI (0 : Int))]), (lo15, 1, [(eL (eI) s.2.2)])] hO rfl (by kernel_rfl) ?_
      intro H hO
      refine dK ?_
      replace hO := hO.pick (L' := [(lo1, 1, [(eL (eI) s.2.2)]), (lo2, 1, [(eI (0 : Int))])]) [0, 1] (by decide) (by kernel_rfl)
      refine bU [12] [] ?_
      refine bI ?_
      obtain rfl := oI h0
      have hD := (hO.gm 0 _ rfl).2
      replace hO := (hO.mX .dead).nQ
      exact aF (QM1 (.inr rfl) hD (rs := [.cell 10 30, .cell 11 22]) (xs := [(eL (eI) s.2.2), (eI (0 : Int))]) (x := (.tup [(eL (eI) s.2.2), (eI (0 : Int))])) (by kernel_rfl) (fL (lo := lo1) (k := 1) (y := (eL (eI) s.2.2)) (x := (eL (eI) s.2.2)) 0 hO (by kernel_rfl) (by kernel_rfl) (by kernel_rfl) (by kernel_rfl) (fL (lo := lo2) (k := 1) (y := (eI (0 : Int))) (x := (eI (0 : Int))) 1 hO (by kernel_rfl) (by kernel_rfl) (by kernel_rfl) (by kernel_rfl) lM)) (by kernel_rfl) ⟨rfl, hO.out⟩)
    · dsimp only [Sum.elim_inr] at hi
      obtain ⟨lo19, rfl⟩ := hi
      replace h0 : (some (s.1, s.2.1)) = some r := h0
      obtain ⟨hlL, hO⟩ := lH hO
      refine ⟨_, _, hlL, (by intro e; cases e), ?_⟩
      refine bI ?_
      replace hO := hO.pick (L' := [(lo1, 1, [(eL (eI) s.1)]), (lo2, 1, [(eI s.2.1)])]) [0, 1] (by decide) (by kernel_rfl)
      obtain rfl := oI h0
      have hD := (hO.gm 0 _ rfl).2
      replace hO := (hO.mX .dead).nQ
      exact aF (bD (aR (QM1 (.inr rfl) hD (rs := [.cell 10 30, .cell 11 22]) (xs := [(eL (eI) s.1), (eI s.2.1)]) (x := (.tup [(eL (eI) s.1), (eI s.2.1)])) (by kernel_rfl) (fL (lo := lo1) (k := 1) (y := (eL (eI) s.1)) (x := (eL (eI) s.1)) 0 hO (by kernel_rfl) (by kernel_rfl) (by kernel_rfl) (by kernel_rfl) (fL (lo := lo2) (k := 1) (y := (eI s.2.1)) (x := (eI s.2.1)) 1 hO (by kernel_rfl) (by kernel_rfl) (by kernel_rfl) (by kernel_rfl) lM)) (by kernel_rfl) ⟨rfl, hO.out⟩)))

theorem AH (l0 : (List aL)) (r : (List aL)) (h0 : nR l0 = some r) : dH Try.prog 56 [(eL aO l0)] (.fn (.func 74) [] [(.rp (eL aO r))]) := by
  intro H0
  refine dL Try.func56 ?_
  have hO := aK.start H0
  unfold nR at h0
  refine aM ?_
  refine aS aD 2 ?_
  refine gM 1 (eL aO l0) (by kernel_rfl) (by kernel_rfl) ?_
  refine bA ?_
  refine bC [(1, (.rp (eL aO l0)))] ?_
  refine cJ aD 2 [(2, (.fn (.func 74) [] [(.rp (eL aO l0))]))] ?_
  refine bI ?_
  obtain rfl := oI h0
  exact aF (kY (x := (.fn (.func 74) [] [(.rp (eL aO l0))])) (by kernel_rfl) (aN.refl _) ⟨rfl, hO.out⟩)

theorem uU (s10 : (List aE)) (s21 : (List aE)) (r : Bool) (h0 : jK s10 s21 = some r) : dH Try.prog 76 [(eL aH s10), (eL aH s21)] (aC r) := by
  intro H0
  refine dL Try.func76 ?_
  have hO := aK.start H0
  unfold jK at h0
  refine aW aD 1 [] [] ?_
  refine aM ?_
  refine aW aD 5 [] [(10, (aC (!decide ((lN s10) = (lN s21)))))] ?_
  refine bQ h0 (fun h0 => ?_) (fun h0 => ?_)
  · refine cJ aD 1 [(4, (aC false))] ?_
    refine bI ?_
    obtain rfl := oI h0
    exact aF (aR (Q_r hO))
  refine bR ?_
  refine bC [(0, (eL aH s10)), (1, (eL aH s21))] ?_
  refine iI (fun T H => Has T [] ∧ aK ⟨H0, [], []⟩ H [] ∧ gL  = some r) ?_ ?_
  · clear hO h0
    rintro T H ⟨hT, hO, h0⟩
    refine bK hT ?_
    clear hT
    unfold gL at h0
    refine cJ aD 1 [(4, (aC true))] ?_
    refine bI ?_
    obtain rfl := oI h0
    exact aF (Q_r hO)
  refine aW aD 3 [] [(12, (eI (lN s10))), (13, (eI (0 : Int)))] ?_
  refine cC 0 ?_
  refine fQ [(0, (eL aH s10)), (1, (eL aH s21)), (12, (eI (lN s10))), (13, (eI (0 : Int)))] ?_
  refine fV (fun T H => ∃ t12 : Int, ∃ t13 : Int, Has T [(0, (eL aH s10)), (1, (eL aH s21)), (12, (eI t12)), (13, (eI t13))] ∧ aK ⟨H0, [], []⟩ H [] ∧ jG s10 s21 t12 t13 = some r) ?_ ⟨(lN s10), (0 : Int), .eq (by kernel_rfl), hO, h0⟩
  clear hO h0
  rintro T H ⟨t12, t13, hT, hO, h0⟩
  refine bK hT ?_
  clear hT
  unfold jG at h0
  obtain ⟨rr0, hl0, h0⟩ := aV h0
  refine dV (by kernel_rfl) (fun (s : Int) T H => Has T [(0, (eL aH s10)), (1, (eL aH s21)), (12, (eI t12)), (13, (eI s))] ∧ aK ⟨H0, [], []⟩ H []) hl0 ⟨.eq (by kernel_rfl), hO⟩ ?_
  clear hO
  rintro k0 s out1 T H ⟨hT, hO⟩ h1 ho0
  obtain ⟨t13, rfl⟩ : ∃ x, x = s := ⟨_, rfl⟩
  replace h1 : eX s10 s21 t12 t13 = some out1 := h1
  refine bK hT ?_
  clear hT
  unfold eX at h1
  refine aW aD 1 [] [(14, (aC (decide (t13 < t12))))] ?_
  refine aM ?_
  refine bQ h1 (fun h1 => ?_) (fun h1 => ?_)
  · refine bR ?_
    refine bC [(0, (eL aH s10)), (1, (eL aH s21)), (12, (eI t12)), (13, (eI t13))] ?_
    refine aM ?_
    refine cC 1 ?_
    refine aW aD 2 [] [(5, (eI t13))] ?_
    refine aM ?_
    refine gI (gH [19, 23]) aD 9 ?_
    obtain ⟨c3, h1⟩ := aZ h1
    obtain ⟨c4, h1⟩ := aZ h1
    refine JF (Ds := [0 ≤ t13 ∧ t13 < (lN s10), 0 ≤ t13 ∧ t13 < (lN s21)]) (by kernel_rfl) ⟨c3, c4, trivial⟩ ?_
    refine bU [5] [(24, (aC (!((decide (((gD s10 t13).Kind) = ((gD s21 t13).Kind))) && ((decide (((gD s10 t13).Num) = ((gD s21 t13).Num))) && ((nP ((gD s10 t13).Text) ((gD s21 t13).Text)) && true))))))] ?_
    refine bQ h1 (fun h1 => ?_) (fun h1 => ?_)
    · refine cJ aD 1 [(4, (aC false))] ?_
      refine bI ?_
      obtain rfl := oI h1
      obtain rfl : _ = rr0 := ho0
      replace h0 : some false = some r := h0
      obtain rfl := oI h0
      exact aF (bD (aR (aR (bD (aR (Q_r hO))))))
    refine bR ?_
    refine fC [(0, (eL aH s10)), (1, (eL aH s21)), (12, (eI t12)), (13, (eI t13))] ?_
    refine aF (aX (aJ (?_)))
    refine aS aD 2 ?_
    refine bA ?_
    exact aF (aJ (⟨rfl, _, (oI h1).symm, .eq (by kernel_rfl), hO⟩))
  refine jD 0 ?_
  obtain rfl := oI h1
  obtain rfl : _ = rr0 := ho0
  replace h0 : gL  = some r := h0
  exact aF (aY (aY (cD (aJ (⟨rfl, .eq (by kernel_rfl), hO, h0⟩)))))

theorem HK (a0 : (List aE)) (b1 : (List aE)) (r : Bool) (h0 : qB a0 b1 = some r) : dH Try.prog 58 [(eL aH a0), (eL aH b1)] (aC r) := by
  intro H0
  refine dL Try.func58 ?_
  have hO := aK.start H0
  unfold qB at h0
  refine aW aD 1 [] [] ?_
  refine aM ?_
  refine aS aD 4 ?_
  refine bN 2 ?_
  obtain ⟨x1, hx2, h0⟩ := aV h0
  refine dX (uU a0 b1 _ hx2) hO ?_
  intro H hO
  refine bA ?_
  refine bC [(4, (aC x1))] ?_
  refine bI ?_
  obtain rfl := oI h0
  exact aF (Q_r hO)

theorem BJ (r0 : (List aE)) (r : (List aE)) (h0 : qF r0 = some r) : dH Try.prog 59 [(eL aH r0)] (eL aH r) := by
  intro H0
  refine dL Try.func59 ?_
  have hO := aK.start H0
  unfold qF at h0
  refine aW aD 1 [] [] ?_
  refine aM ?_
  refine aS aD 6 ?_
  refine bN 2 ?_
  obtain ⟨c1, h0⟩ := aZ h0
  refine JL 3 32 (lN r0) (by kernel_rfl) (by kernel_rfl) c1 hO ?_
  intro lo2 H hO
  refine bN 4 ?_
  obtain ⟨c4, h0⟩ := aZ h0
  refine AV (e := aH) ([] : List aE) r0 0 lo2 3 32 (eL aH r0) (fun lo3 => [(lo3, 3, List.map aH (([] : List aE) ++ r0))]) (by kernel_rfl) (by kernel_rfl) hO (by kernel_rfl) (SN (fun _ => by kernel_rfl)) c4 (fun _ => by kernel_rfl) ?_
  intro lo3 H hO
  refine bA ?_
  refine bC [(2, (.msl 3 lo3 0 (List.length (([] : List aE) ++ r0))))] ?_
  refine bI ?_
  refine fC [(2, (.msl 3 lo3 0 (List.length (([] : List aE) ++ r0))))] ?_
  refine DL (en := aH) (([] : List aE) ++ r0) 0 0 2 3 lo3 (List.length (([] : List aE) ++ r0)) hO (by kernel_rfl) (by kernel_rfl) (by kernel_rfl) (L' := []) (by kernel_rfl) ?_
  intro H5 hO
  obtain rfl := oI h0
  exact aF (Q_r hO)

theorem vO {σ : Type} (I : σ → Gs → Prop) (yield0_b : Nat) (cK : σ → (List aE) → (List aB) → Option (σ × Bool)) (yield0_h : ∀ st a0 a1 st2 r, cK st a0 a1 = some (st2, r) → xT Try.prog (yv yield0_b) I st [(eL aH a0), (eL aG a1)] st2 (aC r)) (t1 : (List aL)) (sg0 : σ) (r : σ) (h0 : lU cK t1 sg0 = some r) : uJ Try.prog 74 I sg0 [(yv yield0_b), (.rp (eL aO t1))] r (.tup []) := by
  intro H0 G0 hI hg
  refine dL Try.func74 ?_
  obtain ⟨G, hO, hI⟩ : ∃ G, aK ⟨H0, List.map (fun p : Nat × cT => p.1) G0, G⟩ H0 [] ∧ I sg0 G := ⟨G0, aK.AL hg, hI⟩
  clear hg
  unfold lU at h0
  refine aW aD 1 [] [(3, (eI (0 : Int)))] ?_
  refine cC 0 ?_
  refine fQ [(0, (yv yield0_b)), (1, (.rp (eL aO t1))), (3, (eI (0 : Int)))] ?_
  refine fV (fun T H => ∃ sg : σ, ∃ i3 : Int, ∃ G : Gs, Has T [(0, (yv yield0_b)), (1, (.rp (eL aO t1))), (3, (eI i3))] ∧ aK ⟨H0, List.map (fun p : Nat × cT => p.1) G0, G⟩ H [] ∧ I sg G ∧ qA cK sg t1 i3 = some r) ?_ ⟨sg0, (0 : Int), G, .eq (by kernel_rfl), hO, hI, h0⟩
  clear hO hI h0
  rintro T H ⟨sg, i3, G, hT, hO, hI, h0⟩
  refine bK hT ?_
  clear hT
  unfold qA at h0
  obtain ⟨rr0, hl0, h0⟩ := aV h0
  refine dV (by kernel_rfl) (fun (s : σ × Int) T H => ∃ G : Gs, Has T [(0, (yv yield0_b)), (1, (.rp (eL aO t1))), (3, (eI s.2))] ∧ aK ⟨H0, List.map (fun p : Nat × cT => p.1) G0, G⟩ H [] ∧ I s.1 G) hl0 ⟨G, .eq (by kernel_rfl), hO, hI⟩ ?_
  clear hO hI
  rintro k0 s out1 T H ⟨G, hT, hO, hI⟩ h1 ho0
  obtain ⟨sg, i3⟩ := s
  replace h1 : iL cK t1 sg i3 = some out1 := h1
  try dsimp only at hT
  refine bK hT ?_
  clear hT
  unfold iL at h1
  refine aM ?_
  refine aW aD 4 [] [(9, (aC (decide (i3 < (lN t1)))))] ?_
  refine bQ h1 (fun h1 => ?_) (fun h1 => ?_)
  · refine bR ?_
    refine bC [(0, (yv yield0_b)), (1, (.rp (eL aO t1))), (3, (eI i3))] ?_
    refine cC 1 ?_
    refine aM ?_
    refine aS aD 6 ?_
    obtain ⟨c2, h1⟩ := aZ h1
    refine rR [0 ≤ i3 ∧ i3 < (lN t1)] ⟨c2, trivial⟩ ?_
    refine bU [] [(4, (eL aH ((gD t1 i3).Row)))] ?_
    refine aM ?_
    refine aS aD 2 ?_
    refine uH (xs := []) (k := 2) (by kernel_rfl) (by kernel_rfl) ?_
    refine bA ?_
    refine bU [] [(5, (.sl true 0 (fun _ => .bad)))] ?_
    refine iI (fun T H => ∃ sg : σ, ∃ i3 : Int, ∃ r4 : (List aE), ∃ f5 : List aB, ∃ lo3 : Nat, ∃ G : Gs, Has T [(0, (yv yield0_b)), (1, (.rp (eL aO t1))), (3, (eI i3)), (4, (eL aH r4)), (5, (.msl 2 lo3 0 (List.length f5)))] ∧ aK ⟨H0, List.map (fun p : Nat × cT => p.1) G0, G⟩ H [(lo3, 2, List.map aG f5)] ∧ I sg G ∧ nY cK sg t1 i3 r4 f5 = some out1) ?_ ?_
    · clear hO hI h1
      rintro T H ⟨sg, i3, r4, f5, lo3, G, hT, hO, hI, h1⟩
      refine bK hT ?_
      clear hT
      unfold nY at h1
      refine aM ?_
      refine aS aD 6 ?_
      refine LJ (e := aG) f5 0 5 2 lo3 (List.length f5) [] (by kernel_rfl) hO (by kernel_rfl) (by kernel_rfl) (by kernel_rfl) (by kernel_rfl) ?_
      intro H hO
      refine bN 2 ?_
      obtain ⟨x7, hx8, h1⟩ := aV h1
      refine dX (BJ r4 _ hx8) hO ?_
      intro H hO
      refine bN 4 ?_
      obtain ⟨x10, hx11, h1⟩ := aV h1
      refine EP (I := I) (yv yield0_b) [(eL aH x7), (eL aG f5)] (aC x10.2) (by kernel_rfl) (by kernel_rfl) (yield0_h _ x7 f5 x10.1 x10.2 hx11) hO hI ?_
      intro G H hO hI
      refine bA ?_
      refine bU [4, 5] [(50, (aC (!x10.2)))] ?_
      refine bQ h1 (fun h1 => ?_) (fun h1 => ?_)
      · refine bI ?_
        obtain rfl := oI h1
        obtain rfl : _ = rr0 := ho0
        replace h0 : some x10.1 = some r := h0
        obtain rfl := oI h0
        exact aF (bD (aR (bD (kY (x := (.tup [])) (by kernel_rfl) (aN.refl _) ⟨rfl, G, hI, hO.wK⟩))))
      refine bR ?_
      exact aF (aX (aJ (⟨rfl, _, (oI h1).symm, _, .eq (by kernel_rfl), hO, hI⟩)))
    refine cC 2 ?_
    refine fQ [(0, (yv yield0_b)), (1, (.rp (eL aO t1))), (3, (eI i3)), (4, (eL aH ((gD t1 i3).Row))), (5, (.sl true 0 (fun _ => .bad)))] ?_
    refine aBW (el := (fun _ => .bad)) 4 5 2 hO (by kernel_rfl) ?_
    intro lo24 H25 hO
    refine fV (fun T H => ∃ sg : σ, ∃ i3 : Int, ∃ r4 : (List aE), ∃ f5 : List aB, ∃ lo14 : Nat, ∃ G : Gs, Has T [(0, (yv yield0_b)), (1, (.rp (eL aO t1))), (3, (eI i3)), (4, (eL aH r4)), (5, (.msl 2 lo14 0 (List.length f5)))] ∧ aK ⟨H0, List.map (fun p : Nat × cT => p.1) G0, G⟩ H [(lo14, 2, List.map aG f5)] ∧ I sg G ∧ qG cK sg t1 i3 r4 f5 = some out1) ?_ ⟨sg, i3, (gD t1 i3).Row, ([] : List aB), lo24, G, .eq (by kernel_rfl), hO, hI, h1⟩
    clear hO hI h1
    rintro T H ⟨sg, i3, r4, f5, lo14, G, hT, hO, hI, h1⟩
    refine bK hT ?_
    clear hT
    unfold qG at h1
    obtain ⟨rr1, hl1, h1⟩ := aV h1
    refine dV (by kernel_rfl) (fun (s : σ × Int × List aB) T H => ∃ lo14 : Nat, ∃ G : Gs, Has T [(0, (yv yield0_b)), (1, (.rp (eL aO t1))), (3, (eI s.2.1)), (4, (eL aH r4)), (5, (.msl 2 lo14 0 (List.length s.2.2)))] ∧ aK ⟨H0, List.map (fun p : Nat × cT => p.1) G0, G⟩ H [(lo14, 2, List.map aG s.2.2)] ∧ I s.1 G) hl1 ⟨lo14, G, .eq (by kernel_rfl), hO, hI⟩ ?_
    clear hO hI
    rintro k1 s out2 T H ⟨lo14, G, hT, hO, hI⟩ h2 ho1
    obtain ⟨sg, i3, f5⟩ := s
    replace h2 : jL cK t1 r4 sg i3 f5 = some out2 := h2
    try dsimp only at hT
    refine bK hT ?_
    clear hT
    unfold jL at h2
    refine aM ?_
    refine aM ?_
    refine aS aD 13 ?_
    obtain ⟨c15, h2⟩ := aZ h2
    refine zA 11 [(((decide (i3 < (lN t1)))) = true → 0 ≤ i3 ∧ i3 < (lN t1))] ⟨c15, trivial⟩ ?_
    obtain ⟨x16, hx17, h2⟩ := aV h2
    refine nB [(20, true)] 58 [(eL aH ((gD t1 i3).Row)), (eL aH r4)] (aC x16) (decide (i3 < (lN t1))) (by kernel_rfl) (by kernel_rfl) (by kernel_rfl) (fun hb18 => (HK ((gD t1 i3).Row) r4 _ (jN hx17 hb18))) hO ?_
    intro H hO
    refine bA ?_
    refine bU [] [(28, (aC ((decide (i3 < (lN t1))) && x16)))] ?_
    refine bQ h2 (fun h2 => ?_) (fun h2 => ?_)
    · refine bR ?_
      refine bC [(0, (yv yield0_b)), (1, (.rp (eL aO t1))), (3, (eI i3)), (4, (eL aH r4)), (5, (.msl 2 lo14 0 (List.length f5)))] ?_
      refine aM ?_
      refine cC 3 ?_
      refine gI (gH [32, 36, 37, 41, 43]) aD 15 ?_
      obtain ⟨c20, h2⟩ := aZ h2
      obtain ⟨c21, h2⟩ := aZ h2
      refine cH 12 [0 ≤ i3 ∧ i3 < (lN t1), 0 ≤ i3 ∧ i3 < (lN t1)] ⟨c20, c21, trivial⟩ ?_
      refine UH (xs := [(aG (aB.mk ((gD t1 i3).At) ((gD t1 i3).Net)))]) (k := 2) (by kernel_rfl) (by kernel_rfl) ?_
      obtain ⟨c23, h2⟩ := aZ h2
      refine KF (e := aG) f5 ([aB.mk ((gD t1 i3).At) ((gD t1 i3).Net)]) 0 lo14 2 16 (iD [(aG (aB.mk ((gD t1 i3).At) ((gD t1 i3).Net)))]) (fun lo22 => [(lo22, 2, List.map aG (f5 ++ ([aB.mk ((gD t1 i3).At) ((gD t1 i3).Net)])))]) (by kernel_rfl) (by kernel_rfl) hO (by kernel_rfl) (by kernel_rfl) c23 (fun _ => by kernel_rfl) ?_
      intro lo22 H hO
      refine kM ?_
      refine fC [(0, (yv yield0_b)), (1, (.rp (eL aO t1))), (3, (eI i3)), (4, (eL aH r4)), (5, (.msl 2 lo22 0 (List.length (f5 ++ ([aB.mk ((gD t1 i3).At) ((gD t1 i3).Net)])))))] ?_
      refine aF (aX (aJ (?_)))
      refine aS aD 3 ?_
      refine bA ?_
      exact aF (aJ (⟨rfl, _, (oI h2).symm, _, _, .eq (by kernel_rfl), hO, hI⟩))
    refine jD 2 ?_
    obtain rfl := oI h2
    obtain rfl : _ = rr1 := ho1
    replace h1 : nY cK sg t1 i3 r4 f5 = some out1 := h1
    exact aF (aY (aY (cD (aJ (⟨rfl, _, _, _, _, _, _, .eq (by kernel_rfl), hO, hI, h1⟩)))))
  refine jD 0 ?_
  obtain rfl := oI h1
  obtain rfl : _ = rr0 := ho0
  replace h0 : some sg = some r := h0
  obtain rfl := oI h0
  exact aF (aY (aY (cD (vW (x := (.tup [])) (by kernel_rfl) (aN.refl _) ⟨rfl, G, hI, hO.wK⟩))))

theorem sC (s0 : (List aE)) (f1_f : Nat) (f1_a f1_c : List V) (f1 : aE → Option Bool) (f1_h : ∀ a0 r, f1 a0 = some r → dH Try.prog f1_f (f1_a ++ [(aH a0)] ++ f1_c) (aC r)) (r : Int) (h0 : iF s0 f1 = some r) : dH Try.prog 95 [(eL aH s0), (.fn (.func f1_f) f1_a f1_c)] (eI r) := by
  intro H0
  refine dL Try.func95 ?_
  have hO := aK.start H0
  unfold iF at h0
  refine aW aD 1 [] [] ?_
  refine iI (fun T H => Has T [] ∧ aK ⟨H0, [], []⟩ H [] ∧ fE f1  = some r) ?_ ?_
  · clear hO h0
    rintro T H ⟨hT, hO, h0⟩
    refine bK hT ?_
    clear hT
    unfold fE at h0
    refine cJ aD 1 [(4, (eI (-1 : Int)))] ?_
    refine bI ?_
    obtain rfl := oI h0
    exact aF (Q_r hO)
  refine aW aD 3 [] [(7, (eI (lN s0))), (8, (eI (0 : Int)))] ?_
  refine cC 0 ?_
  refine fQ [(0, (eL aH s0)), (1, (.fn (.func f1_f) f1_a f1_c)), (7, (eI (lN s0))), (8, (eI (0 : Int)))] ?_
  refine fV (fun T H => ∃ t7 : Int, ∃ t8 : Int, Has T [(0, (eL aH s0)), (1, (.fn (.func f1_f) f1_a f1_c)), (7, (eI t7)), (8, (eI t8))] ∧ aK ⟨H0, [], []⟩ H [] ∧ iB f1 s0 t7 t8 = some r) ?_ ⟨(lN s0), (0 : Int), .eq (by kernel_rfl), hO, h0⟩
  clear hO h0
  rintro T H ⟨t7, t8, hT, hO, h0⟩
  refine bK hT ?_
  clear hT
  unfold iB at h0
  obtain ⟨rr0, hl0, h0⟩ := aV h0
  refine dV (by kernel_rfl) (fun (s : Int) T H => Has T [(0, (eL aH s0)), (1, (.fn (.func f1_f) f1_a f1_c)), (7, (eI t7)), (8, (eI s))] ∧ aK ⟨H0, [], []⟩ H []) hl0 ⟨.eq (by kernel_rfl), hO⟩ ?_
  clear hO
  rintro k0 s out1 T H ⟨hT, hO⟩ h1 ho0
  obtain ⟨t8, rfl⟩ : ∃ x, x = s := ⟨_, rfl⟩
  replace h1 : iC f1 s0 t7 t8 = some out1 := h1
  refine bK hT ?_
  clear hT
  unfold iC at h1
  refine aW aD 1 [] [(9, (aC (decide (t8 < t7))))] ?_
  refine aM ?_
  refine bQ h1 (fun h1 => ?_) (fun h1 => ?_)
  · refine bR ?_
    refine bC [(0, (eL aH s0)), (1, (.fn (.func f1_f) f1_a f1_c)), (7, (eI t7)), (8, (eI t8))] ?_
    refine aM ?_
    refine cC 1 ?_
    refine aW aD 2 [] [(5, (eI t8))] ?_
    refine aM ?_
    refine aS aD 6 ?_
    obtain ⟨c2, h1⟩ := aZ h1
    refine zA 5 [0 ≤ t8 ∧ t8 < (lN s0)] ⟨c2, trivial⟩ ?_
    obtain ⟨x3, hx4, h1⟩ := aV h1
    refine dX (f1_h (gD s0 t8) _ hx4) hO ?_
    intro H hO
    refine dK ?_
    refine bU [] [(16, (aC x3))] ?_
    refine bQ h1 (fun h1 => ?_) (fun h1 => ?_)
    · refine cJ aD 2 [(4, (eI t8))] ?_
      refine bI ?_
      obtain rfl := oI h1
      obtain rfl : _ = rr0 := ho0
      replace h0 : some t8 = some r := h0
      obtain rfl := oI h0
      exact aF (bD (aR (aR (bD (aR (Q_r hO))))))
    refine bR ?_
    refine fC [(0, (eL aH s0)), (1, (.fn (.func f1_f) f1_a f1_c)), (7, (eI t7)), (8, (eI t8))] ?_
    refine aF (aX (aJ (?_)))
    refine aS aD 2 ?_
    refine bA ?_
    exact aF (aJ (⟨rfl, _, (oI h1).symm, .eq (by kernel_rfl), hO⟩))
  refine jD 0 ?_
  obtain rfl := oI h1
  obtain rfl : _ = rr0 := ho0
  replace h0 : fE f1  = some r := h0
  exact aF (aY (aY (cD (aJ (⟨rfl, .eq (by kernel_rfl), hO, h0⟩)))))

theorem rE (s0 : (List aE)) (f1_f : Nat) (f1_a f1_c : List V) (f1 : aE → Option Bool) (f1_h : ∀ a0 r, f1 a0 = some r → dH Try.prog f1_f (f1_a ++ [(aH a0)] ++ f1_c) (aC r)) (r : Bool) (h0 : eV s0 f1 = some r) : dH Try.prog 92 [(eL aH s0), (.fn (.func f1_f) f1_a f1_c)] (aC r) := by
  intro H0
  refine dL Try.func92 ?_
  have hO := aK.start H0
  unfold eV at h0
  refine aW aD 1 [] [] ?_
  refine aM ?_
  refine aS aD 5 ?_
  refine bN 2 ?_
  obtain ⟨x1, hx2, h0⟩ := aV h0
  refine dX (sC s0 f1_f f1_a f1_c f1 f1_h _ hx2) hO ?_
  intro H hO
  refine bA ?_
  refine bC [(4, (aC (decide ((0 : Int) ≤ x1))))] ?_
  refine bI ?_
  obtain rfl := oI h0
  exact aF (Q_r hO)

theorem vN (v0 : aE) (r : (bH × Bool)) (h0 : lF v0 = some r) : dH Try.prog 106 [(aH v0)] (.tup [(bB r.1), (aC r.2)]) := by
  intro H0
  refine dL Try.func106 ?_
  have hO := aK.start H0
  unfold lF at h0
  refine aM ?_
  refine aS aD 3 ?_
  refine gM 3 (aH v0) (by kernel_rfl) (by kernel_rfl) ?_
  refine bA ?_
  refine bC [(1, (.rp (aH v0)))] ?_
  refine aM ?_
  refine cC 0 ?_
  refine aW aD 9 [] [(4, (aC ((decide (v0.Kind = (1 : Int))) && (nP v0.Text (⟨#[]⟩ : ByteArray)))))] ?_
  refine bQ h0 (fun h0 => ?_) (fun h0 => ?_)
  · refine cJ aD 5 [(2, (bB (bH.k_number v0.Num))), (3, (aC true))] ?_
    refine bI ?_
    obtain rfl := oI h0
    exact aF (bD (aR (Q_r hO)))
  refine aW aD 15 [4] [(16, (aC (((decide (v0.Kind = (2 : Int))) && (decide (v0.Num = (0 : Int)))) && (decide (((ByteArray.size v0.Text : Nat) : Int) ≤ (64 : Int))))))] ?_
  refine bQ h0 (fun h0 => ?_) (fun h0 => ?_)
  · refine cJ aD 5 [(2, (bB (bH.k_words v0.Text))), (3, (aC true))] ?_
    refine bI ?_
    obtain rfl := oI h0
    exact aF (bD (aR (Q_r hO)))
  refine bR ?_
  refine fC [] ?_
  refine aF (aX (aJ (?_)))
  refine cJ aD 2 [(2, (bB bH.none_)), (3, (aC false))] ?_
  refine bI ?_
  obtain rfl := oI h0
  exact aF (Q_r hO)

theorem RE (v0 : aE) (r : Bool) (h0 : tX v0 = some r) : dH Try.prog 94 [(aH v0)] (aC r) := by
  intro H0
  refine dL Try.func94 ?_
  have hO := aK.start H0
  unfold tX at h0
  refine aM ?_
  refine aS aD 2 ?_
  refine gM 3 (aH v0) (by kernel_rfl) (by kernel_rfl) ?_
  refine bA ?_
  refine bC [(1, (.rp (aH v0)))] ?_
  refine aM ?_
  refine aS aD 7 ?_
  refine bN 1 ?_
  obtain ⟨⟨x1_0, x1_1⟩, hx2, h0⟩ := aV h0
  refine dX (vN v0 _ hx2) hO ?_
  intro H hO
  rcases x1_0 with _ | y4 | y5
  · replace h0 : (some x1_1) = some r := h0
    refine bA ?_
    refine bC [(4, (aC x1_1))] ?_
    refine cJ aD 2 [(2, (aC x1_1))] ?_
    refine bI ?_
    obtain rfl := oI h0
    exact aF (Q_r hO)
  · replace h0 : (some x1_1) = some r := h0
    refine bA ?_
    refine bC [(4, (aC x1_1))] ?_
    refine cJ aD 2 [(2, (aC x1_1))] ?_
    refine bI ?_
    obtain rfl := oI h0
    exact aF (Q_r hO)
  · replace h0 : (some x1_1) = some r := h0
    refine bA ?_
    refine bC [(4, (aC x1_1))] ?_
    refine cJ aD 2 [(2, (aC x1_1))] ?_
    refine bI ?_
    obtain rfl := oI h0
    exact aF (Q_r hO)

theorem QS (v0 : aE) (r : Bool) (h0 : tZ v0 = some r) : dH Try.prog 93 [(aH v0)] (aC r) := by
  intro H0
  refine dL Try.func93 ?_
  have hO := aK.start H0
  unfold tZ at h0
  refine aM ?_
  refine aS aD 2 ?_
  refine gM 3 (aH v0) (by kernel_rfl) (by kernel_rfl) ?_
  refine bA ?_
  refine bC [(1, (.rp (aH v0)))] ?_
  refine aM ?_
  refine aS aD 4 ?_
  refine bN 1 ?_
  obtain ⟨x1, hx2, h0⟩ := aV h0
  refine dX (RE v0 _ hx2) hO ?_
  intro H hO
  refine bA ?_
  refine bC [(2, (aC (!x1)))] ?_
  refine bI ?_
  obtain rfl := oI h0
  exact aF (Q_r hO)

theorem EK (r0 : (List aE)) (r : Bool) (h0 : sV r0 = some r) : dH Try.prog 71 [(eL aH r0)] (aC r) := by
  intro H0
  refine dL Try.func71 ?_
  have hO := aK.start H0
  unfold sV at h0
  refine aW aD 1 [] [] ?_
  refine aM ?_
  refine aW aD 3 [] [(5, (aC (decide ((8 : Int) < (lN r0)))))] ?_
  refine bQ h0 (fun h0 => ?_) (fun h0 => ?_)
  · refine cJ aD 1 [(2, (aC false))] ?_
    refine bI ?_
    obtain rfl := oI h0
    exact aF (aR (Q_r hO))
  refine bR ?_
  refine bC [(0, (eL aH r0))] ?_
  refine aM ?_
  refine aS aD 4 ?_
  refine bN 1 ?_
  obtain ⟨x2, hx3, h0⟩ := aV h0
  refine dX (rE r0 93 [] [] (fun y0 => tZ y0) (fun y0 r h => QS y0 r h) _ hx3) hO ?_
  intro H hO
  refine bA ?_
  refine bC [(2, (aC (!x2)))] ?_
  refine bI ?_
  obtain rfl := oI h0
  exact aF (Q_r hO)

theorem ID (t0 : (List aE)) (r : (Int × (List aE))) (h0 : rV t0 = some r) : wV Try.prog 96 [(.rp (eL aH t0))] (fun lo => (.fn (.func 97) [] [(.lp lo 0 0), (.rp (eL aH r.2))])) 1 [(eI r.1)] := by
  intro H0
  refine dL Try.func96 ?_
  have hO := aK.start H0
  unfold rV at h0
  refine aW aD 1 [] [] ?_
  refine aM ?_
  refine aS aD 2 ?_
  refine jS 1 (eI 0) (by kernel_rfl) (by kernel_rfl) hO ?_
  intro lo1 H hO
  refine fX 0 lo1 1 0 (eI 0) (eI (-1 : Int)) [(eI 0)] [(lo1, 1, [(eI (-1 : Int))])] hO rfl (by kernel_rfl) ?_
  intro H hO
  refine dK ?_
  refine bU [] [(2, (.lp lo1 0 0))] ?_
  refine aW aD 2 [0] [(1, (.fn (.func 97) [] [(.lp lo1 0 0), (.rp (eL aH t0))]))] ?_
  refine bI ?_
  obtain rfl := oI h0
  exact aF (kY (x := (.fn (.func 97) [] [(.lp lo1 0 0), (.rp (eL aH t0))])) (by kernel_rfl) (aN.refl _) ⟨lo1, rfl, hO⟩)

theorem rP {σ : Type} (I : σ → Gs → Prop) (s0 : (List aE)) (f1_v : V) (f1 : σ → aE → Option (σ × Bool)) (f1_h : ∀ st a0 st2 r, f1 st a0 = some (st2, r) → xT Try.prog f1_v I st [(aH a0)] st2 (aC r)) (sg0 : σ) (r : (σ × Int)) (h0 : gY s0 f1 sg0 = some r) : uJ Try.prog 95 I sg0 [(eL aH s0), f1_v] r.1 (eI r.2) := by
  intro H0 G0 hI hg
  refine dL Try.func95 ?_
  obtain ⟨G, hO, hI⟩ : ∃ G, aK ⟨H0, List.map (fun p : Nat × cT => p.1) G0, G⟩ H0 [] ∧ I sg0 G := ⟨G0, aK.AL hg, hI⟩
  clear hg
  unfold gY at h0
  refine aW aD 1 [] [] ?_
  refine iI (fun T H => ∃ sg : σ, ∃ G : Gs, Has T [] ∧ aK ⟨H0, List.map (fun p : Nat × cT => p.1) G0, G⟩ H [] ∧ I sg G ∧ eW f1 sg = some r) ?_ ?_
  · clear hO hI h0
    rintro T H ⟨sg, G, hT, hO, hI, h0⟩
    refine bK hT ?_
    clear hT
    unfold eW at h0
    refine cJ aD 1 [(4, (eI (-1 : Int)))] ?_
    refine bI ?_
    obtain rfl := oI h0
    exact aF (kY (x := (eI (-1 : Int))) (by kernel_rfl) (aN.refl _) ⟨rfl, G, hI, hO.wK⟩)
  refine aW aD 3 [] [(7, (eI (lN s0))), (8, (eI (0 : Int)))] ?_
  refine cC 0 ?_
  refine fQ [(0, (eL aH s0)), (1, f1_v), (7, (eI (lN s0))), (8, (eI (0 : Int)))] ?_
  refine fV (fun T H => ∃ sg : σ, ∃ t7 : Int, ∃ t8 : Int, ∃ G : Gs, Has T [(0, (eL aH s0)), (1, f1_v), (7, (eI t7)), (8, (eI t8))] ∧ aK ⟨H0, List.map (fun p : Nat × cT => p.1) G0, G⟩ H [] ∧ I sg G ∧ gT f1 sg s0 t7 t8 = some r) ?_ ⟨sg0, (lN s0), (0 : Int), G, .eq (by kernel_rfl), hO, hI, h0⟩
  clear hO hI h0
  rintro T H ⟨sg, t7, t8, G, hT, hO, hI, h0⟩
  refine bK hT ?_
  clear hT
  unfold gT at h0
  obtain ⟨rr0, hl0, h0⟩ := aV h0
  refine dV (by kernel_rfl) (fun (s : σ × Int) T H => ∃ G : Gs, Has T [(0, (eL aH s0)), (1, f1_v), (7, (eI t7)), (8, (eI s.2))] ∧ aK ⟨H0, List.map (fun p : Nat × cT => p.1) G0, G⟩ H [] ∧ I s.1 G) hl0 ⟨G, .eq (by kernel_rfl), hO, hI⟩ ?_
  clear hO hI
  rintro k0 s out1 T H ⟨G, hT, hO, hI⟩ h1 ho0
  obtain ⟨sg, t8⟩ := s
  replace h1 : cB f1 s0 t7 sg t8 = some out1 := h1
  try dsimp only at hT
  refine bK hT ?_
  clear hT
  unfold cB at h1
  refine aW aD 1 [] [(9, (aC (decide (t8 < t7))))] ?_
  refine aM ?_
  refine bQ h1 (fun h1 => ?_) (fun h1 => ?_)
  · refine bR ?_
    refine bC [(0, (eL aH s0)), (1, f1_v), (7, (eI t7)), (8, (eI t8))] ?_
    refine aM ?_
    refine cC 1 ?_
    refine aW aD 2 [] [(5, (eI t8))] ?_
    refine aM ?_
    refine aS aD 6 ?_
    obtain ⟨c2, h1⟩ := aZ h1
    refine zA 5 [0 ≤ t8 ∧ t8 < (lN s0)] ⟨c2, trivial⟩ ?_
    obtain ⟨x3, hx4, h1⟩ := aV h1
    refine EP (I := I) f1_v [(aH (gD s0 t8))] (aC x3.2) (by kernel_rfl) (by kernel_rfl) (f1_h _ (gD s0 t8) x3.1 x3.2 hx4) hO hI ?_
    intro G H hO hI
    refine dK ?_
    refine bU [] [(16, (aC x3.2))] ?_
    refine bQ h1 (fun h1 => ?_) (fun h1 => ?_)
    · refine cJ aD 2 [(4, (eI t8))] ?_
      refine bI ?_
      obtain rfl := oI h1
      obtain rfl : _ = rr0 := ho0
      replace h0 : some (x3.1, t8) = some r := h0
      obtain rfl := oI h0
      exact aF (bD (aR (aR (bD (aR (kY (x := (eI t8)) (by kernel_rfl) (aN.refl _) ⟨rfl, G, hI, hO.wK⟩))))))
    refine bR ?_
    refine fC [(0, (eL aH s0)), (1, f1_v), (7, (eI t7)), (8, (eI t8))] ?_
    refine aF (aX (aJ (?_)))
    refine aS aD 2 ?_
    refine bA ?_
    exact aF (aJ (⟨rfl, _, (oI h1).symm, _, .eq (by kernel_rfl), hO, hI⟩))
  refine jD 0 ?_
  obtain rfl := oI h1
  obtain rfl : _ = rr0 := ho0
  replace h0 : eW f1 sg = some r := h0
  exact aF (aY (aY (cD (aJ (⟨rfl, _, _, .eq (by kernel_rfl), hO, hI, h0⟩)))))

theorem EX (v0 : aE) (lo1p : Nat) (t1 : Int) (t2 : (List aE)) (r : (Bool × Int)) (h0 : jR v0 t1 t2 = some r) : mS Try.prog 97 lo1p 1 [(eI t1)] [(eI r.2)] [(aH v0), (.lp lo1p 0 0), (.rp (eL aH t2))] (aC r.1) := by
  intro H0 hl0
  refine dL Try.func97 ?_
  have hO := aK.qX hl0
  clear hl0
  unfold jR at h0
  refine aM ?_
  refine aS aD 2 ?_
  refine gM 3 (aH v0) (by kernel_rfl) (by kernel_rfl) ?_
  refine bA ?_
  refine bU [0] [(3, (.rp (aH v0)))] ?_
  refine aM ?_
  refine aS aD 3 ?_
  refine mO 0 lo1p 1 0 (eI t1) (eI t1) [(eI t1)] hO rfl ?_
  refine bN 2 ?_
  refine fX 0 lo1p 1 0 (eI t1) (eI (wR (t1 + (1 : Int)))) [(eI t1)] [(lo1p, 1, [(eI (wR (t1 + (1 : Int))))])] hO rfl (by kernel_rfl) ?_
  intro H hO
  refine dK ?_
  refine bU [] [] ?_
  refine aM ?_
  refine gI (gH [7, 8, 11]) aD 7 ?_
  refine lR 2 ?_
  refine gW 0 lo1p 1 0 (eI (wR (t1 + (1 : Int)))) (eI (wR (t1 + (1 : Int)))) [(eI (wR (t1 + (1 : Int))))] hO rfl ?_
  obtain ⟨c1, h0⟩ := aZ h0
  refine JF (Ds := [0 ≤ (wR (t1 + (1 : Int))) ∧ (wR (t1 + (1 : Int))) < (lN t2)]) (by kernel_rfl) ⟨c1, trivial⟩ ?_
  refine bC [(1, (.lp lo1p 0 0)), (4, (aC (!((decide (v0.Kind = ((gD t2 (wR (t1 + (1 : Int)))).Kind))) && ((decide (v0.Num = ((gD t2 (wR (t1 + (1 : Int)))).Num))) && ((nP v0.Text ((gD t2 (wR (t1 + (1 : Int)))).Text)) && true))))))] ?_
  refine bI ?_
  obtain rfl := oI h0
  exact aF (kY (x := (aC (!((decide (v0.Kind = ((gD t2 (wR (t1 + (1 : Int)))).Kind))) && ((decide (v0.Num = ((gD t2 (wR (t1 + (1 : Int)))).Num))) && ((nP v0.Text ((gD t2 (wR (t1 + (1 : Int)))).Text)) && true)))))) (by kernel_rfl) (aN.refl _) ⟨rfl, hO.ext, hO.at 0 (by kernel_rfl), rfl⟩)

theorem rW (x0 : Int) (r : Bool) (h0 : kX x0 = some r) : dH Try.prog 105 [(eI x0)] (aC r) := by
  intro H0
  refine dL Try.func105 ?_
  have hO := aK.start H0
  unfold kX at h0
  refine aW aD 1 [] [] ?_
  refine cJ aD 4 [(2, (aC (!decide (x0 = x0))))] ?_
  refine bI ?_
  obtain rfl := oI h0
  exact aF (Q_r hO)

theorem EW (x0 : Int) (y1 : Int) (r : Int) (h0 : nL x0 y1 = some r) : dH Try.prog 98 [(eI x0), (eI y1)] (eI r) := by
  intro H0
  refine dL Try.func98 ?_
  have hO := aK.start H0
  unfold nL at h0
  refine aW aD 1 [] [] ?_
  refine aM ?_
  refine aS aD 3 ?_
  refine bN 1 ?_
  obtain ⟨x1, hx2, h0⟩ := aV h0
  refine dX (rW x0 _ hx2) hO ?_
  intro H hO
  refine bA ?_
  refine bU [] [(5, (aC x1))] ?_
  refine aM ?_
  refine aS aD 3 ?_
  refine bN 1 ?_
  obtain ⟨x4, hx5, h0⟩ := aV h0
  refine dX (rW y1 _ hx5) hO ?_
  intro H hO
  refine bA ?_
  refine bU [] [(6, (aC x4))] ?_
  refine aM ?_
  refine aW aD 1 [5] [(11, (aC x1))] ?_
  refine bQ h0 (fun h0 => ?_) (fun h0 => ?_)
  · refine aM ?_
    refine cJ aD 1 [(12, (aC x4))] ?_
    refine bQ h0 (fun h0 => ?_) (fun h0 => ?_)
    · refine cJ aD 1 [(4, (eI (0 : Int)))] ?_
      refine bI ?_
      obtain rfl := oI h0
      exact aF (aR (aR (Q_r hO)))
    refine bR ?_
    refine bC [] ?_
    refine cJ aD 1 [(4, (eI (-1 : Int)))] ?_
    refine bI ?_
    obtain rfl := oI h0
    exact aF (aR (Q_r hO))
  refine bR ?_
  refine bC [(0, (eI x0)), (1, (eI y1)), (6, (aC x4))] ?_
  refine aM ?_
  refine aW aD 1 [6] [(13, (aC x4))] ?_
  refine bQ h0 (fun h0 => ?_) (fun h0 => ?_)
  · refine cJ aD 1 [(4, (eI (1 : Int)))] ?_
    refine bI ?_
    obtain rfl := oI h0
    exact aF (aR (Q_r hO))
  refine bR ?_
  refine bC [(0, (eI x0)), (1, (eI y1))] ?_
  refine aM ?_
  refine aW aD 3 [] [(16, (aC (decide (x0 < y1))))] ?_
  refine bQ h0 (fun h0 => ?_) (fun h0 => ?_)
  · refine cJ aD 1 [(4, (eI (-1 : Int)))] ?_
    refine bI ?_
    obtain rfl := oI h0
    exact aF (aR (Q_r hO))
  refine bR ?_
  refine bC [(0, (eI x0)), (1, (eI y1))] ?_
  refine aM ?_
  refine cJ aD 3 [(19, (aC (decide (y1 < x0))))] ?_
  refine bQ h0 (fun h0 => ?_) (fun h0 => ?_)
  · refine cJ aD 1 [(4, (eI (1 : Int)))] ?_
    refine bI ?_
    obtain rfl := oI h0
    exact aF (aR (Q_r hO))
  refine bR ?_
  refine bC [] ?_
  refine cJ aD 1 [(4, (eI (0 : Int)))] ?_
  refine bI ?_
  obtain rfl := oI h0
  exact aF (Q_r hO)

theorem sL (x0 : Int) (r : Bool) (h0 : kL x0 = some r) : dH Try.prog 110 [(eI x0)] (aC r) := by
  intro H0
  refine dL Try.func110 ?_
  have hO := aK.start H0
  unfold kL at h0
  refine aW aD 1 [] [] ?_
  refine cJ aD 4 [(2, (aC (!decide (x0 = x0))))] ?_
  refine bI ?_
  obtain rfl := oI h0
  exact aF (Q_r hO)

theorem xM (x0 : Int) (y1 : Int) (r : Int) (h0 : fP x0 y1 = some r) : dH Try.prog 107 [(eI x0), (eI y1)] (eI r) := by
  intro H0
  refine dL Try.func107 ?_
  have hO := aK.start H0
  unfold fP at h0
  refine aW aD 1 [] [] ?_
  refine aM ?_
  refine aS aD 3 ?_
  refine bN 1 ?_
  obtain ⟨x1, hx2, h0⟩ := aV h0
  refine dX (sL x0 _ hx2) hO ?_
  intro H hO
  refine bA ?_
  refine bU [] [(5, (aC x1))] ?_
  refine aM ?_
  refine aS aD 3 ?_
  refine bN 1 ?_
  obtain ⟨x4, hx5, h0⟩ := aV h0
  refine dX (sL y1 _ hx5) hO ?_
  intro H hO
  refine bA ?_
  refine bU [] [(6, (aC x4))] ?_
  refine aM ?_
  refine aW aD 1 [5] [(11, (aC x1))] ?_
  refine bQ h0 (fun h0 => ?_) (fun h0 => ?_)
  · refine aM ?_
    refine cJ aD 1 [(12, (aC x4))] ?_
    refine bQ h0 (fun h0 => ?_) (fun h0 => ?_)
    · refine cJ aD 1 [(4, (eI (0 : Int)))] ?_
      refine bI ?_
      obtain rfl := oI h0
      exact aF (aR (aR (Q_r hO)))
    refine bR ?_
    refine bC [] ?_
    refine cJ aD 1 [(4, (eI (-1 : Int)))] ?_
    refine bI ?_
    obtain rfl := oI h0
    exact aF (aR (Q_r hO))
  refine bR ?_
  refine bC [(0, (eI x0)), (1, (eI y1)), (6, (aC x4))] ?_
  refine aM ?_
  refine aW aD 1 [6] [(13, (aC x4))] ?_
  refine bQ h0 (fun h0 => ?_) (fun h0 => ?_)
  · refine cJ aD 1 [(4, (eI (1 : Int)))] ?_
    refine bI ?_
    obtain rfl := oI h0
    exact aF (aR (Q_r hO))
  refine bR ?_
  refine bC [(0, (eI x0)), (1, (eI y1))] ?_
  refine aM ?_
  refine aW aD 3 [] [(16, (aC (decide (x0 < y1))))] ?_
  refine bQ h0 (fun h0 => ?_) (fun h0 => ?_)
  · refine cJ aD 1 [(4, (eI (-1 : Int)))] ?_
    refine bI ?_
    obtain rfl := oI h0
    exact aF (aR (Q_r hO))
  refine bR ?_
  refine bC [(0, (eI x0)), (1, (eI y1))] ?_
  refine aM ?_
  refine cJ aD 3 [(19, (aC (decide (y1 < x0))))] ?_
  refine bQ h0 (fun h0 => ?_) (fun h0 => ?_)
  · refine cJ aD 1 [(4, (eI (1 : Int)))] ?_
    refine bI ?_
    obtain rfl := oI h0
    exact aF (aR (Q_r hO))
  refine bR ?_
  refine bC [] ?_
  refine cJ aD 1 [(4, (eI (0 : Int)))] ?_
  refine bI ?_
  obtain rfl := oI h0
  exact aF (Q_r hO)

theorem uS (a0 : ByteArray) (b1 : ByteArray) (r : Int) (h0 : jJ a0 b1 = some r) : dH Try.prog 111 [(wH a0), (wH b1)] (eI r) := by
  intro H0
  refine dL Try.func111 ?_
  have hO := aK.start H0
  unfold jJ at h0
  refine aW aD 1 [] [] ?_
  refine aM ?_
  refine aS aD 4 ?_
  refine bN 2 ?_
  refine aBr 112 [(wH a0), (wH b1)] (eI (JH a0 b1)) (by kernel_rfl) (by kernel_rfl) (aAt Try.func112 (by kernel_rfl) (by kernel_rfl) (by kernel_rfl) (by kernel_rfl) a0 b1) hO ?_
  intro H hO
  refine bA ?_
  refine bC [(4, (eI (JH a0 b1)))] ?_
  refine bI ?_
  obtain rfl := oI h0
  exact aF (Q_r hO)

theorem FA (a0 : ByteArray) (b1 : ByteArray) (r : Int) (h0 : mA a0 b1 = some r) : dH Try.prog 108 [(wH a0), (wH b1)] (eI r) := by
  intro H0
  refine dL Try.func108 ?_
  have hO := aK.start H0
  unfold mA at h0
  refine aW aD 1 [] [] ?_
  refine aM ?_
  refine aS aD 4 ?_
  refine bN 2 ?_
  obtain ⟨x1, hx2, h0⟩ := aV h0
  refine dX (uS a0 b1 _ hx2) hO ?_
  intro H hO
  refine bA ?_
  refine bC [(4, (eI x1))] ?_
  refine bI ?_
  obtain rfl := oI h0
  exact aF (Q_r hO)

theorem IQ (a0 : aE) (b1 : aE) (r : Int) (h0 : oO a0 b1 = some r) : dH Try.prog 99 [(aH a0), (aH b1)] (eI r) := by
  intro H0
  refine dL Try.func99 ?_
  have hO := aK.start H0
  unfold oO at h0
  refine aM ?_
  refine aS aD 3 ?_
  refine gM 3 (aH a0) (by kernel_rfl) (by kernel_rfl) ?_
  refine gM 3 (aH b1) (by kernel_rfl) (by kernel_rfl) ?_
  refine bA ?_
  refine bC [(2, (.rp (aH a0))), (3, (.rp (aH b1)))] ?_
  refine aM ?_
  refine aS aD 7 ?_
  refine bN 1 ?_
  obtain ⟨⟨x1_0, x1_1⟩, hx2, h0⟩ := aV h0
  refine dX (vN a0 _ hx2) hO ?_
  intro H hO
  rcases x1_0 with _ | y4 | y5
  · replace h0 : ((lF b1).bind fun (x6_0, x6_1) => match x6_0 with | .none_ => (cond ((!x1_1) || (!x6_1)) (some (0 : Int)) (none)) | .k_number y9 => (cond ((!x1_1) || (!x6_1)) (some (0 : Int)) (some (1 : Int))) | .k_words y10 => (cond ((!x1_1) || (!x6_1)) (some (0 : Int)) (none))) = some r := h0
    refine bA ?_
    refine bU [2] [(5, (bB bH.none_)), (6, (aC x1_1))] ?_
    refine aM ?_
    refine aS aD 7 ?_
    refine bN 1 ?_
    obtain ⟨⟨x6_0, x6_1⟩, hx7, h0⟩ := aV h0
    refine dX (vN b1 _ hx7) hO ?_
    intro H hO
    rcases x6_0 with _ | y9 | y10
    · replace h0 : (cond ((!x1_1) || (!x6_1)) (some (0 : Int)) (none)) = some r := h0
      refine bA ?_
      refine bU [3] [(7, (bB bH.none_)), (8, (aC x6_1))] ?_
      refine aM ?_
      refine aW aD 6 [6, 8] [(28, (aC ((!x1_1) || (!x6_1))))] ?_
      refine bQ h0 (fun h0 => ?_) (fun h0 => ?_)
      · refine cJ aD 1 [(4, (eI (0 : Int)))] ?_
        refine bI ?_
        obtain rfl := oI h0
        exact aF (aR (Q_r hO))
      refine bR ?_
      refine bC [(5, (bB bH.none_)), (7, (bB bH.none_))] ?_
      refine aW aD 7 [] [(9, (eI 0)), (10, (aC false))] ?_
      refine aW aD 7 [] [(11, (eI 0)), (12, (aC false))] ?_
      refine aM ?_
      refine cC 0 ?_
      refine aW aD 5 [] [(39, (aC false))] ?_
      refine lV (false) (fun hc12 => ?_) (fun hc12 => ?_)
      · cases hc12
      · refine aW aD 2 [9, 10, 11, 39] [(47, (aC false))] ?_
        refine lV (false) (fun hc13 => ?_) (fun hc13 => ?_)
        · cases hc13
        · refine cJ aD 2 [(5, (bB bH.none_)), (7, (bB bH.none_)), (49, (aC false))] ?_
          refine lV (false) (fun hc14 => ?_) (fun hc14 => ?_)
          · cases hc14
          · refine bR ?_
            refine fC [(5, (bB bH.none_)), (7, (bB bH.none_))] ?_
            refine aF (aX (aJ (?_)))
            refine aM ?_
            refine gI (gH []) aD 6 ?_
            cases h0
    · replace h0 : (cond ((!x1_1) || (!x6_1)) (some (0 : Int)) (some (1 : Int))) = some r := h0
      refine bA ?_
      refine bU [3] [(7, (bB (bH.k_number y9))), (8, (aC x6_1))] ?_
      refine aM ?_
      refine aW aD 6 [6, 8] [(28, (aC ((!x1_1) || (!x6_1))))] ?_
      refine bQ h0 (fun h0 => ?_) (fun h0 => ?_)
      · refine cJ aD 1 [(4, (eI (0 : Int)))] ?_
        refine bI ?_
        obtain rfl := oI h0
        exact aF (aR (Q_r hO))
      refine bR ?_
      refine bC [(5, (bB bH.none_)), (7, (bB (bH.k_number y9)))] ?_
      refine aW aD 7 [] [(9, (eI 0)), (10, (aC false))] ?_
      refine aW aD 7 [] [(11, (eI y9)), (12, (aC true))] ?_
      refine aM ?_
      refine cC 0 ?_
      refine aW aD 5 [] [(39, (aC false))] ?_
      refine lV (false) (fun hc16 => ?_) (fun hc16 => ?_)
      · cases hc16
      · refine aW aD 2 [9, 10, 11, 39] [(47, (aC false))] ?_
        refine lV (false) (fun hc17 => ?_) (fun hc17 => ?_)
        · cases hc17
        · refine cJ aD 2 [(5, (bB bH.none_)), (7, (bB (bH.k_number y9))), (49, (aC true))] ?_
          refine lV (true) (fun hc18 => ?_) (fun hc18 => ?_)
          · refine cJ aD 1 [(4, (eI (1 : Int)))] ?_
            refine bI ?_
            obtain rfl := oI h0
            exact aF (bD (aR (Q_r hO)))
          · cases hc18
    · replace h0 : (cond ((!x1_1) || (!x6_1)) (some (0 : Int)) (none)) = some r := h0
      refine bA ?_
      refine bU [3] [(7, (bB (bH.k_words y10))), (8, (aC x6_1))] ?_
      refine aM ?_
      refine aW aD 6 [6, 8] [(28, (aC ((!x1_1) || (!x6_1))))] ?_
      refine bQ h0 (fun h0 => ?_) (fun h0 => ?_)
      · refine cJ aD 1 [(4, (eI (0 : Int)))] ?_
        refine bI ?_
        obtain rfl := oI h0
        exact aF (aR (Q_r hO))
      refine bR ?_
      refine bC [(5, (bB bH.none_)), (7, (bB (bH.k_words y10)))] ?_
      refine aW aD 7 [] [(9, (eI 0)), (10, (aC false))] ?_
      refine aW aD 7 [] [(11, (eI 0)), (12, (aC false))] ?_
      refine aM ?_
      refine cC 0 ?_
      refine aW aD 5 [] [(39, (aC false))] ?_
      refine lV (false) (fun hc20 => ?_) (fun hc20 => ?_)
      · cases hc20
      · refine aW aD 2 [9, 10, 11, 39] [(47, (aC false))] ?_
        refine lV (false) (fun hc21 => ?_) (fun hc21 => ?_)
        · cases hc21
        · refine cJ aD 2 [(5, (bB bH.none_)), (7, (bB (bH.k_words y10))), (49, (aC false))] ?_
          refine lV (false) (fun hc22 => ?_) (fun hc22 => ?_)
          · cases hc22
          · refine bR ?_
            refine fC [(5, (bB bH.none_)), (7, (bB (bH.k_words y10)))] ?_
            refine aF (aX (aJ (?_)))
            refine aM ?_
            refine gI (gH []) aD 6 ?_
            cases h0
  · replace h0 : ((lF b1).bind fun (x23_0, x23_1) => match x23_0 with | .none_ => (cond ((!x1_1) || (!x23_1)) (some (0 : Int)) (some (-1 : Int))) | .k_number y26 => (cond ((!x1_1) || (!x23_1)) (some (0 : Int)) ((fP y4 y26).bind fun x33 => some x33)) | .k_words y27 => (cond ((!x1_1) || (!x23_1)) (some (0 : Int)) (some (-1 : Int)))) = some r := h0
    refine bA ?_
    refine bU [2] [(5, (bB (bH.k_number y4))), (6, (aC x1_1))] ?_
    refine aM ?_
    refine aS aD 7 ?_
    refine bN 1 ?_
    obtain ⟨⟨x23_0, x23_1⟩, hx24, h0⟩ := aV h0
    refine dX (vN b1 _ hx24) hO ?_
    intro H hO
    rcases x23_0 with _ | y26 | y27
    · replace h0 : (cond ((!x1_1) || (!x23_1)) (some (0 : Int)) (some (-1 : Int))) = some r := h0
      refine bA ?_
      refine bU [3] [(7, (bB bH.none_)), (8, (aC x23_1))] ?_
      refine aM ?_
      refine aW aD 6 [6, 8] [(28, (aC ((!x1_1) || (!x23_1))))] ?_
      refine bQ h0 (fun h0 => ?_) (fun h0 => ?_)
      · refine cJ aD 1 [(4, (eI (0 : Int)))] ?_
        refine bI ?_
        obtain rfl := oI h0
        exact aF (aR (Q_r hO))
      refine bR ?_
      refine bC [(5, (bB (bH.k_number y4))), (7, (bB bH.none_))] ?_
      refine aW aD 7 [] [(9, (eI y4)), (10, (aC true))] ?_
      refine aW aD 7 [] [(11, (eI 0)), (12, (aC false))] ?_
      refine aM ?_
      refine cC 0 ?_
      refine aW aD 5 [] [(39, (aC false))] ?_
      refine lV (false) (fun hc29 => ?_) (fun hc29 => ?_)
      · cases hc29
      · refine aW aD 2 [9, 10, 11, 39] [(47, (aC true))] ?_
        refine lV (true) (fun hc30 => ?_) (fun hc30 => ?_)
        · refine cJ aD 1 [(4, (eI (-1 : Int)))] ?_
          refine bI ?_
          obtain rfl := oI h0
          exact aF (bD (aR (Q_r hO)))
        · cases hc30
    · replace h0 : (cond ((!x1_1) || (!x23_1)) (some (0 : Int)) ((fP y4 y26).bind fun x33 => some x33)) = some r := h0
      refine bA ?_
      refine bU [3] [(7, (bB (bH.k_number y26))), (8, (aC x23_1))] ?_
      refine aM ?_
      refine aW aD 6 [6, 8] [(28, (aC ((!x1_1) || (!x23_1))))] ?_
      refine bQ h0 (fun h0 => ?_) (fun h0 => ?_)
      · refine cJ aD 1 [(4, (eI (0 : Int)))] ?_
        refine bI ?_
        obtain rfl := oI h0
        exact aF (aR (Q_r hO))
      refine bR ?_
      refine bC [(5, (bB (bH.k_number y4))), (7, (bB (bH.k_number y26)))] ?_
      refine aW aD 7 [] [(9, (eI y4)), (10, (aC true))] ?_
      refine aW aD 7 [] [(11, (eI y26)), (12, (aC true))] ?_
      refine aM ?_
      refine cC 0 ?_
      refine aW aD 5 [] [(39, (aC true))] ?_
      refine lV (true) (fun hc32 => ?_) (fun hc32 => ?_)
      · refine aM ?_
        refine aS aD 4 ?_
        refine bN 2 ?_
        obtain ⟨x33, hx34, h0⟩ := aV h0
        refine dX (xM y4 y26 _ hx34) hO ?_
        intro H hO
        refine bA ?_
        refine bC [(4, (eI x33))] ?_
        refine bI ?_
        obtain rfl := oI h0
        exact aF (bD (aR (Q_r hO)))
      · cases hc32
    · replace h0 : (cond ((!x1_1) || (!x23_1)) (some (0 : Int)) (some (-1 : Int))) = some r := h0
      refine bA ?_
      refine bU [3] [(7, (bB (bH.k_words y27))), (8, (aC x23_1))] ?_
      refine aM ?_
      refine aW aD 6 [6, 8] [(28, (aC ((!x1_1) || (!x23_1))))] ?_
      refine bQ h0 (fun h0 => ?_) (fun h0 => ?_)
      · refine cJ aD 1 [(4, (eI (0 : Int)))] ?_
        refine bI ?_
        obtain rfl := oI h0
        exact aF (aR (Q_r hO))
      refine bR ?_
      refine bC [(5, (bB (bH.k_number y4))), (7, (bB (bH.k_words y27)))] ?_
      refine aW aD 7 [] [(9, (eI y4)), (10, (aC true))] ?_
      refine aW aD 7 [] [(11, (eI 0)), (12, (aC false))] ?_
      refine aM ?_
      refine cC 0 ?_
      refine aW aD 5 [] [(39, (aC false))] ?_
      refine lV (false) (fun hc37 => ?_) (fun hc37 => ?_)
      · cases hc37
      · refine aW aD 2 [9, 10, 11, 39] [(47, (aC true))] ?_
        refine lV (true) (fun hc38 => ?_) (fun hc38 => ?_)
        · refine cJ aD 1 [(4, (eI (-1 : Int)))] ?_
          refine bI ?_
          obtain rfl := oI h0
          exact aF (bD (aR (Q_r hO)))
        · cases hc38
  · replace h0 : ((lF b1).bind fun (x39_0, x39_1) => match x39_0 with | .none_ => (cond ((!x1_1) || (!x39_1)) (some (0 : Int)) (none)) | .k_number y42 => (cond ((!x1_1) || (!x39_1)) (some (0 : Int)) (some (1 : Int))) | .k_words y43 => (cond ((!x1_1) || (!x39_1)) (some (0 : Int)) ((mA y5 y43).bind fun x56 => some x56))) = some r := h0
    refine bA ?_
    refine bU [2] [(5, (bB (bH.k_words y5))), (6, (aC x1_1))] ?_
    refine aM ?_
    refine aS aD 7 ?_
    refine bN 1 ?_
    obtain ⟨⟨x39_0, x39_1⟩, hx40, h0⟩ := aV h0
    refine dX (vN b1 _ hx40) hO ?_
    intro H hO
    rcases x39_0 with _ | y42 | y43
    · replace h0 : (cond ((!x1_1) || (!x39_1)) (some (0 : Int)) (none)) = some r := h0
      refine bA ?_
      refine bU [3] [(7, (bB bH.none_)), (8, (aC x39_1))] ?_
      refine aM ?_
      refine aW aD 6 [6, 8] [(28, (aC ((!x1_1) || (!x39_1))))] ?_
      refine bQ h0 (fun h0 => ?_) (fun h0 => ?_)
      · refine cJ aD 1 [(4, (eI (0 : Int)))] ?_
        refine bI ?_
        obtain rfl := oI h0
        exact aF (aR (Q_r hO))
      refine bR ?_
      refine bC [(5, (bB (bH.k_words y5))), (7, (bB bH.none_))] ?_
      refine aW aD 7 [] [(9, (eI 0)), (10, (aC false))] ?_
      refine aW aD 7 [] [(11, (eI 0)), (12, (aC false))] ?_
      refine aM ?_
      refine cC 0 ?_
      refine aW aD 5 [] [(39, (aC false))] ?_
      refine lV (false) (fun hc45 => ?_) (fun hc45 => ?_)
      · cases hc45
      · refine aW aD 2 [9, 10, 11, 39] [(47, (aC false))] ?_
        refine lV (false) (fun hc46 => ?_) (fun hc46 => ?_)
        · cases hc46
        · refine cJ aD 2 [(5, (bB (bH.k_words y5))), (7, (bB bH.none_)), (49, (aC false))] ?_
          refine lV (false) (fun hc47 => ?_) (fun hc47 => ?_)
          · cases hc47
          · refine bR ?_
            refine fC [(5, (bB (bH.k_words y5))), (7, (bB bH.none_))] ?_
            refine aF (aX (aJ (?_)))
            refine aM ?_
            refine gI (gH []) aD 6 ?_
            cases h0
    · replace h0 : (cond ((!x1_1) || (!x39_1)) (some (0 : Int)) (some (1 : Int))) = some r := h0
      refine bA ?_
      refine bU [3] [(7, (bB (bH.k_number y42))), (8, (aC x39_1))] ?_
      refine aM ?_
      refine aW aD 6 [6, 8] [(28, (aC ((!x1_1) || (!x39_1))))] ?_
      refine bQ h0 (fun h0 => ?_) (fun h0 => ?_)
      · refine cJ aD 1 [(4, (eI (0 : Int)))] ?_
        refine bI ?_
        obtain rfl := oI h0
        exact aF (aR (Q_r hO))
      refine bR ?_
      refine bC [(5, (bB (bH.k_words y5))), (7, (bB (bH.k_number y42)))] ?_
      refine aW aD 7 [] [(9, (eI 0)), (10, (aC false))] ?_
      refine aW aD 7 [] [(11, (eI y42)), (12, (aC true))] ?_
      refine aM ?_
      refine cC 0 ?_
      refine aW aD 5 [] [(39, (aC false))] ?_
      refine lV (false) (fun hc49 => ?_) (fun hc49 => ?_)
      · cases hc49
      · refine aW aD 2 [9, 10, 11, 39] [(47, (aC false))] ?_
        refine lV (false) (fun hc50 => ?_) (fun hc50 => ?_)
        · cases hc50
        · refine cJ aD 2 [(5, (bB (bH.k_words y5))), (7, (bB (bH.k_number y42))), (49, (aC true))] ?_
          refine lV (true) (fun hc51 => ?_) (fun hc51 => ?_)
          · refine cJ aD 1 [(4, (eI (1 : Int)))] ?_
            refine bI ?_
            obtain rfl := oI h0
            exact aF (bD (aR (Q_r hO)))
          · cases hc51
    · replace h0 : (cond ((!x1_1) || (!x39_1)) (some (0 : Int)) ((mA y5 y43).bind fun x56 => some x56)) = some r := h0
      refine bA ?_
      refine bU [3] [(7, (bB (bH.k_words y43))), (8, (aC x39_1))] ?_
      refine aM ?_
      refine aW aD 6 [6, 8] [(28, (aC ((!x1_1) || (!x39_1))))] ?_
      refine bQ h0 (fun h0 => ?_) (fun h0 => ?_)
      · refine cJ aD 1 [(4, (eI (0 : Int)))] ?_
        refine bI ?_
        obtain rfl := oI h0
        exact aF (aR (Q_r hO))
      refine bR ?_
      refine bC [(5, (bB (bH.k_words y5))), (7, (bB (bH.k_words y43)))] ?_
      refine aW aD 7 [] [(9, (eI 0)), (10, (aC false))] ?_
      refine aW aD 7 [] [(11, (eI 0)), (12, (aC false))] ?_
      refine aM ?_
      refine cC 0 ?_
      refine aW aD 5 [] [(39, (aC false))] ?_
      refine lV (false) (fun hc53 => ?_) (fun hc53 => ?_)
      · cases hc53
      · refine aW aD 2 [9, 10, 11, 39] [(47, (aC false))] ?_
        refine lV (false) (fun hc54 => ?_) (fun hc54 => ?_)
        · cases hc54
        · refine cJ aD 2 [(5, (bB (bH.k_words y5))), (7, (bB (bH.k_words y43))), (49, (aC false))] ?_
          refine lV (false) (fun hc55 => ?_) (fun hc55 => ?_)
          · cases hc55
          · refine bR ?_
            refine fC [(5, (bB (bH.k_words y5))), (7, (bB (bH.k_words y43)))] ?_
            refine aF (aX (aJ (?_)))
            refine aM ?_
            refine gI (gH []) aD 6 ?_
            refine lR 4 ?_
            obtain ⟨x56, hx57, h0⟩ := aV h0
            refine yZ (FA y5 y43 _ hx57) hO ?_
            intro H hO
            refine kM ?_
            refine bC [(4, (eI x56))] ?_
            refine bI ?_
            obtain rfl := oI h0
            exact aF (Q_r hO)

theorem MP (a0 : (List aE)) (b1 : (List aE)) (r : Int) (h0 : qV a0 b1 = some r) : dH Try.prog 72 [(eL aH a0), (eL aH b1)] (eI r) := by
  intro H0
  refine dL Try.func72 ?_
  have hO := aK.start H0
  unfold qV at h0
  refine aM ?_
  refine aS aD 2 ?_
  refine gM 1 (eL aH b1) (by kernel_rfl) (by kernel_rfl) ?_
  refine bA ?_
  refine bU [1] [(3, (.rp (eL aH b1)))] ?_
  refine aM ?_
  refine aM ?_
  refine aS aD 8 ?_
  refine bN 1 ?_
  obtain ⟨x1, hx2, h0⟩ := aV h0
  refine dX (EK a0 _ hx2) hO ?_
  intro H hO
  refine bN 5 ?_
  obtain ⟨x4, hx5, h0⟩ := aV h0
  refine nB [(10, false)] 71 [(eL aH b1)] (aC x4) (!(!x1)) (by kernel_rfl) (by kernel_rfl) (by kernel_rfl) (fun hb6 => (EK b1 _ (jN hx5 hb6))) hO ?_
  intro H hO
  refine bA ?_
  refine bU [] [(14, (aC ((!x1) || (!x4))))] ?_
  refine bQ h0 (fun h0 => ?_) (fun h0 => ?_)
  · refine cJ aD 1 [(4, (eI (0 : Int)))] ?_
    refine bI ?_
    obtain rfl := oI h0
    exact aF (aR (Q_r hO))
  refine bR ?_
  refine bC [(0, (eL aH a0)), (3, (.rp (eL aH b1)))] ?_
  refine aW aD 6 [] [(5, (eI (if (lN b1) < (lN a0) then (lN b1) else (lN a0))))] ?_
  refine aM ?_
  refine gI (gH []) aD 7 ?_
  obtain ⟨c8, h0⟩ := aZ h0
  refine cH 4 [0 ≤ (if (lN b1) < (lN a0) then (lN b1) else (lN a0)) ∧ (if (lN b1) < (lN a0) then (lN b1) else (lN a0)) ≤ (lN a0)] ⟨c8, trivial⟩ ?_
  obtain ⟨x9, hx10, h0⟩ := aV h0
  refine aBB (L' := fun lo11 => [(lo11, 1, [(eI x9.1)])]) 1 [(eI x9.1)] 96 [(.rp (eL aH b1))] (fun lo11 => (.fn (.func 97) [] [(.lp lo11 0 0), (.rp (eL aH x9.2))])) (by kernel_rfl) (by kernel_rfl) (ID b1 _ hx10) hO (fun _ => by kernel_rfl) ?_
  intro lo11 H hO
  obtain ⟨x12, hx13, h0⟩ := aV h0
  refine aA8 (fun st G' => G' = up [(lo11, 1, [(eI st)])] ++ []) [(lo11, 1, [(eI x12.1)])] x9.1 x12.1 95 [(.sl false (Int.toNat (if (lN b1) < (lN a0) then (lN b1) else (lN a0))) (fun i => aH (List.getD a0 i default))), (.fn (.func 97) [] [(.lp lo11 0 0), (.rp (eL aH x9.2))])] (eI x12.2) (by kernel_rfl) (by kernel_rfl) (uJ.sub (as0' := [(eL aH (List.take (Int.toNat (if (lN b1) < (lN a0) then (lN b1) else (lN a0))) a0)), (.fn (.func 97) [] [(.lp lo11 0 0), (.rp (eL aH x9.2))])]) (rP _ (List.take (Int.toNat (if (lN b1) < (lN a0) then (lN b1) else (lN a0))) a0) (.fn (.func 97) [] [(.lp lo11 0 0), (.rp (eL aH x9.2))]) (fun st y0 => (jR y0 st x9.2).bind fun o => some (o.2, o.1)) (fun st y0 st2 rr hr => (EX y0 lo11 st x9.2 _ (aCo hr)).toV (ys := []) (zs := [(aH y0)]) (cs := [(.lp lo11 0 0), (.rp (eL aH x9.2))]) (fun Gx hG => ⟨up [], up [] ++ [], hG, rfl⟩)) _ _ hx13) ⟨aBJ (Int.toNat_le.2 (And.right c8)), aN.refl _, trivial⟩) hO rfl (fun _ h => h) ?_
  intro H hO
  refine kM ?_
  replace hO := hO.pick (L' := []) [] (by decide) (by kernel_rfl)
  refine bU [5] [(6, (eI x12.2))] ?_
  refine aM ?_
  refine aW aD 2 [] [(27, (aC (decide (x12.2 < (0 : Int)))))] ?_
  refine bQ h0 (fun h0 => ?_) (fun h0 => ?_)
  · refine aM ?_
    refine aS aD 6 ?_
    refine bN 4 ?_
    obtain ⟨x15, hx16, h0⟩ := aV h0
    refine dX (EW (lN a0) (lN b1) _ hx16) hO ?_
    intro H hO
    refine bA ?_
    refine bC [(4, (eI x15))] ?_
    refine bI ?_
    obtain rfl := oI h0
    exact aF (aR (Q_r hO))
  refine bR ?_
  refine bC [(0, (eL aH a0)), (3, (.rp (eL aH b1))), (6, (eI x12.2))] ?_
  refine aM ?_
  refine gI (gH [36, 37, 40, 41]) aD 10 ?_
  obtain ⟨c18, h0⟩ := aZ h0
  obtain ⟨c19, h0⟩ := aZ h0
  refine cH 8 [0 ≤ x12.2 ∧ x12.2 < (lN a0), 0 ≤ x12.2 ∧ x12.2 < (lN b1)] ⟨c18, c19, trivial⟩ ?_
  obtain ⟨x20, hx21, h0⟩ := aV h0
  refine yZ (IQ (gD a0 x12.2) (gD b1 x12.2) _ hx21) hO ?_
  intro H hO
  refine kM ?_
  refine bC [(4, (eI x20))] ?_
  refine bI ?_
  obtain rfl := oI h0
  exact aF (Q_r hO)

theorem FJ (l0 : (List aL)) (holds1_f : Nat) (holds1_a holds1_c : List V) (sR : (List aB) → Option Bool) (holds1_h : ∀ a0 r, sR a0 = some r → dH Try.prog holds1_f (holds1_a ++ [(eL aG a0)] ++ holds1_c) (aC r)) (r : Bool) (h0 : rG l0 sR = some r) : dH Try.prog 49 [(eL aO l0), (.fn (.func holds1_f) holds1_a holds1_c)] (aC r) := by
  intro H0
  refine yK aD Try.func49 (by kernel_rfl) (by kernel_rfl) (by kernel_rfl) ?_
  have hO := aK.start H0
  unfold rG at h0
  refine aM ?_
  refine aS aD 2 ?_
  refine gM 1 (.fn (.func holds1_f) holds1_a holds1_c) (by kernel_rfl) (by kernel_rfl) ?_
  refine jS 1 (aC false) (by kernel_rfl) (by kernel_rfl) hO ?_
  intro lo1 H hO
  refine dK ?_
  refine bU [1] [(3, (.rp (.fn (.func holds1_f) holds1_a holds1_c))), (4, (.lp lo1 0 0))] ?_
  refine aM ?_
  refine aW aD 3 [] [(11, (aC (decide ((4096 : Int) < (lN l0)))))] ?_
  refine bQ h0 (fun h0 => ?_) (fun h0 => ?_)
  · refine aM ?_
    refine aS aD 1 ?_
    refine fX 0 lo1 1 0 (aC false) (aC false) [(aC false)] [(lo1, 1, [(aC false)])] hO rfl (by kernel_rfl) ?_
    intro H hO
    refine dK ?_
    refine bC [(4, (.lp lo1 0 0))] ?_
    refine bI ?_
    obtain rfl := oI h0
    exact aF (aR (QM0 (.inr rfl) (rs := [.cell 4 4]) (xs := [(aC false)]) (x := (aC false)) (by kernel_rfl) (fL (lo := lo1) (k := 1) (y := (aC false)) (x := (aC false)) 0 hO (by kernel_rfl) (by kernel_rfl) (by kernel_rfl) (by kernel_rfl) lM) (by kernel_rfl) ⟨rfl, hO.out⟩))
  refine bR ?_
  refine bC [(0, (eL aO l0)), (3, (.rp (.fn (.func holds1_f) holds1_a holds1_c))), (4, (.lp lo1 0 0))] ?_
  refine aM ?_
  refine aS aD 1 ?_
  refine wD 1 (.sl true 0 (fun _ => .bad)) (eL aH ([])) (by kernel_rfl) (by kernel_rfl) (by kernel_rfl) (kE) (by kernel_rfl) (by kernel_rfl) hO ?_
  intro lo3 H hO
  refine dK ?_
  refine bU [] [(5, (.lp lo3 0 0))] ?_
  refine aM ?_
  refine aS aD 2 ?_
  refine jS 1 (aC false) (by kernel_rfl) (by kernel_rfl) hO ?_
  intro lo4 H hO
  refine fX 2 lo4 1 0 (aC false) (aC false) [(aC false)] [(lo1, 1, [(aC false)]), (lo3, 1, [(eL aH ([]))]), (lo4, 1, [(aC false)])] hO rfl (by kernel_rfl) ?_
  intro H hO
  refine dK ?_
  refine bU [] [(6, (.lp lo4 0 0))] ?_
  refine aM ?_
  refine aM ?_
  refine aS aD 2 ?_
  refine bN 1 ?_
  obtain ⟨x5, hx6, h0⟩ := aV h0
  refine dX (AH l0 _ hx6) hO ?_
  intro H hO
  refine dK ?_
  refine bU [0] [(13, (.fn (.func 74) [] [(.rp (eL aO x5))]))] ?_
  refine cC 0 ?_
  refine fQ [(3, (.rp (.fn (.func holds1_f) holds1_a holds1_c))), (4, (.lp lo1 0 0)), (5, (.lp lo3 0 0)), (6, (.lp lo4 0 0)), (13, (.fn (.func 74) [] [(.rp (eL aO x5))]))] ?_
  refine fV (fun T H => ∃ t4 : Bool, ∃ nO : (List aE), ∃ jT : Bool, ∃ kS : (List aL), Has T [(3, (.rp (.fn (.func holds1_f) holds1_a holds1_c))), (4, (.lp lo1 0 0)), (5, (.lp lo3 0 0)), (6, (.lp lo4 0 0)), (13, (.fn (.func 74) [] [(.rp (eL aO kS))]))] ∧ aK ⟨H0, [], []⟩ H [(lo1, 1, [(aC t4)]), (lo3, 1, [(eL aH nO)]), (lo4, 1, [(aC jT)])] ∧ vC sR t4 nO jT kS = some r) ?_ ⟨false, [], false, x5, .eq (by kernel_rfl), hO, h0⟩
  clear hO h0
  rintro T H ⟨t4, nO, jT, kS, hT, hO, h0⟩
  refine bK (l := [(3, (.rp (.fn (.func holds1_f) holds1_a holds1_c))), (4, (.lp lo1 0 0)), (5, (.lp lo3 0 0)), (6, (.lp lo4 0 0)), (13, (.fn (.func 74) [] [(.rp (eL aO kS))]))]) hT ?_
  clear hT
  unfold vC at h0
  obtain ⟨o0, hl0, h0⟩ := aV h0
  refine wO (fid := 74) (ys := []) (cs := [(.rp (eL aO kS))]) #[14, 15] (fun (A : qO) (b lL : Nat) (st : (Bool × (List aE) × Bool) ⊕ (Bool × (List aE) × Bool)) (G' : Gs) => Sum.elim (fun (s : Bool × (List aE) × Bool) => G' = (lL, .raw (fN b A .ready none)) :: (up [(lo1, 1, [(aC s.1)]), (lo3, 1, [(eL aH s.2.1)]), (lo4, 1, [(aC s.2.2)])] ++ [])) (fun (s : Bool × (List aE) × Bool) => G' = (lL, .raw (fN b A .done (some .ret))) :: (up [(lo1, 1, [(aC s.1)]), (lo3, 1, [(eL aH s.2.1)]), (lo4, 1, [(aC s.2.2)])] ++ [])) st) (.inl (t4, nO, jT)) o0 (.tup []) (by kernel_rfl) (by kernel_rfl) (by kernel_rfl) hO (fun _ _ => rfl) ?_ ?_
  · intro b lL
    clear hO h0
    refine vO _ b (fun st t14 t15 => rnd (fun (s : Bool × (List aE) × Bool) => nZ sR kS s.1 s.2.1 s.2.2 t14 t15) st) ?_ kS _ _ hl0
    intro st t14 t15 out1 rr hr
    obtain ⟨s, rfl, h1, rfl⟩ := GO hr
    clear hr
    intro Hr Gr hi hg
    obtain ⟨t4, nO, jT⟩ := s
    dsimp only [Sum.elim_inl] at hi
    obtain rfl := hi
    replace h1 : nZ sR kS t4 nO jT t14 t15 = some out1 := h1
    unfold nZ at h1
    obtain ⟨E1, hE, hO⟩ := oY hg
    refine pH (uM (hO.gm 0 _ rfl).2 (by kernel_rfl) (by kernel_rfl) ?_)
    refine fQ [(3, (.rp (.fn (.func holds1_f) holds1_a holds1_c))), (4, (.lp lo1 0 0)), (5, (.lp lo3 0 0)), (6, (.lp lo4 0 0)), (13, (.fn (.func 74) [] [(.rp (eL aO kS))])), (14, (eL aH t14)), (15, (eL aG t15))] ?_
    refine aW aD 1 [13, 14] [(7, (eL aH t14))] ?_
    refine aS aD 1 ?_
    refine bA ?_
    refine fC [(3, (.rp (.fn (.func holds1_f) holds1_a holds1_c))), (4, (.lp lo1 0 0)), (5, (.lp lo3 0 0)), (6, (.lp lo4 0 0)), (7, (eL aH t14)), (8, (eL aG t15))] ?_
    refine aF (⟨rfl, rfl, (hO.gm 0 _ rfl).2, ?_⟩)
    intro o1 ho1
    replace hO := hO.mX o1
    refine cC 1 ?_
    refine aM ?_
    refine aM ?_
    refine aS aD 18 ?_
    refine bN 1 ?_
    obtain ⟨x7, hx8, h1⟩ := aV h1
    refine dX (EK t14 _ hx8) hO ?_
    intro H hO
    refine bN 4 ?_
    refine uV [(19, false)] 2 lo4 1 0 (aC jT) (aC jT) [(aC jT)] (by kernel_rfl) (by kernel_rfl) hO (by kernel_rfl) (!(!x7)) (by kernel_rfl) (fun hb10 => rfl) ?_
    refine bN 6 ?_
    refine uV [(21, true), (19, false)] 1 lo3 1 0 (eL aH nO) (eL aH nO) [(eL aH nO)] (by kernel_rfl) (by kernel_rfl) hO (by kernel_rfl) (jT && (!(!x7))) (by kernel_rfl) (fun hb11 => rfl) ?_
    refine bN 8 ?_
    obtain ⟨x12, hx13, h1⟩ := aV h1
    refine nB [(21, true), (19, false)] 72 [(eL aH nO), (eL aH t14)] (eI x12) (jT && (!(!x7))) (by kernel_rfl) (by kernel_rfl) (by kernel_rfl) (fun hb14 => (MP nO t14 _ (jN hx13 hb14))) hO ?_
    intro H hO
    refine bN 15 ?_
    obtain ⟨x15, hx16, h1⟩ := aV h1
    refine nB [(28, false)] holds1_f (holds1_a ++ [(eL aG t15)] ++ holds1_c) (aC x15) (!((!x7) || (jT && (decide ((0 : Int) ≤ x12))))) (by kernel_rfl) (by kernel_rfl) (by kernel_rfl) (fun hb17 => (holds1_h t15 _ (jN hx16 hb17))) hO ?_
    intro H hO
    refine bA ?_
    refine bU [3, 8] [(33, (aC (((!x7) || (jT && (decide ((0 : Int) ≤ x12)))) || (!x15))))] ?_
    refine bQ h1 (fun h1 => ?_) (fun h1 => ?_)
    · refine aM ?_
      refine aS aD 1 ?_
      refine fX 0 lo1 1 0 (aC t4) (aC false) [(aC t4)] [(lo1, 1, [(aC false)]), (lo3, 1, [(eL aH nO)]), (lo4, 1, [(aC jT)])] hO rfl (by kernel_rfl) ?_
      intro H hO
      refine dK ?_
      refine bU [7, 33] [] ?_
      refine bI ?_
      refine fC [(4, (.lp lo1 0 0)), (5, (.lp lo3 0 0)), (6, (.lp lo4 0 0))] ?_
      obtain rfl := oI h1
      exact aF (aR (bD (⟨(dB hO hE ho1 .dead).1, rfl, _, rfl, (dB hO hE ho1 _).2⟩)))
    refine bR ?_
    refine bC [(4, (.lp lo1 0 0)), (5, (.lp lo3 0 0)), (6, (.lp lo4 0 0)), (7, (eL aH t14))] ?_
    refine aS aD 3 ?_
    refine bN 1 ?_
    refine fX 1 lo3 1 0 (eL aH nO) (eL aH t14) [(eL aH nO)] [(lo1, 1, [(aC t4)]), (lo3, 1, [(eL aH t14)]), (lo4, 1, [(aC jT)])] hO rfl (by kernel_rfl) ?_
    intro H hO
    refine fX 2 lo4 1 0 (aC jT) (aC true) [(aC jT)] [(lo1, 1, [(aC t4)]), (lo3, 1, [(eL aH t14)]), (lo4, 1, [(aC true)])] hO rfl (by kernel_rfl) ?_
    intro H hO
    refine dK ?_
    refine fC [(4, (.lp lo1 0 0)), (5, (.lp lo3 0 0)), (6, (.lp lo4 0 0))] ?_
    obtain rfl := oI h1
    exact aF (aX (⟨(dB hO hE ho1 .dead).1, rfl, _, rfl, (dB hO hE ho1 _).2⟩))
  · intro b lD19 lL H' G' hi hO
    rcases o0 with s | s
    · dsimp only [Sum.elim_inl] at hi
      obtain rfl := hi
      replace h0 : (some true) = some r := h0
      obtain ⟨hlL, hO⟩ := lH hO
      refine ⟨_, _, hlL, (by intro e; cases e), ?_⟩
      refine fC [(4, (.lp lo1 0 0))] ?_
      replace hO := hO.pick (L' := [(lo1, 1, [(aC s.1)])]) [0] (by decide) (by kernel_rfl)
      refine aF (aX (aJ (?_)))
      refine aM ?_
      refine aS aD 1 ?_
      refine fX 0 lo1 1 0 (aC s.1) (aC true) [(aC s.1)] [(lo1, 1, [(aC true)])] hO rfl (by kernel_rfl) ?_
      intro H hO
      refine dK ?_
      refine bC [(4, (.lp lo1 0 0))] ?_
      refine bI ?_
      obtain rfl := oI h0
      have hD := (hO.gm 0 _ rfl).2
      replace hO := (hO.mX .dead).nQ
      exact aF (QM1 (.inr rfl) hD (rs := [.cell 4 4]) (xs := [(aC true)]) (x := (aC true)) (by kernel_rfl) (fL (lo := lo1) (k := 1) (y := (aC true)) (x := (aC true)) 0 hO (by kernel_rfl) (by kernel_rfl) (by kernel_rfl) (by kernel_rfl) lM) (by kernel_rfl) ⟨rfl, hO.out⟩)
    · dsimp only [Sum.elim_inr] at hi
      obtain rfl := hi
      replace h0 : (some s.1) = some r := h0
      obtain ⟨hlL, hO⟩ := lH hO
      refine ⟨_, _, hlL, (by intro e; cases e), ?_⟩
      refine bI ?_
      replace hO := hO.pick (L' := [(lo1, 1, [(aC s.1)])]) [0] (by decide) (by kernel_rfl)
      obtain rfl := oI h0
      have hD := (hO.gm 0 _ rfl).2
      replace hO := (hO.mX .dead).nQ
      exact aF (bD (aR (QM1 (.inr rfl) hD (rs := [.cell 4 4]) (xs := [(aC s.1)]) (x := (aC s.1)) (by kernel_rfl) (fL (lo := lo1) (k := 1) (y := (aC s.1)) (x := (aC s.1)) 0 hO (by kernel_rfl) (by kernel_rfl) (by kernel_rfl) (by kernel_rfl) lM) (by kernel_rfl) ⟨rfl, hO.out⟩)))

theorem RC (n0 : Int) (r : Bool) (h0 : xD n0 = some r) : dH Try.prog 73 [(eI n0)] (aC r) := by
  intro H0
  refine dL Try.func73 ?_
  have hO := aK.start H0
  unfold xD at h0
  refine aW aD 1 [] [] ?_
  refine cJ aD 7 [(2, (aC ((decide (n0 ≤ (1048576 : Int))) && (decide ((-1048576 : Int) ≤ n0)))))] ?_
  refine bI ?_
  obtain rfl := oI h0
  exact aF (Q_r hO)

theorem tC (f0 : (List aB)) (r : Bool) (h0 : lW f0 = some r) : dH Try.prog 51 [(eL aG f0)] (aC r) := by
  intro H0
  refine dL Try.func51 ?_
  have hO := aK.start H0
  unfold lW at h0
  refine aW aD 1 [] [] ?_
  refine aM ?_
  refine aW aD 3 [] [(8, (aC (decide ((1024 : Int) < (lN f0)))))] ?_
  refine bQ h0 (fun h0 => ?_) (fun h0 => ?_)
  · refine cJ aD 1 [(2, (aC false))] ?_
    refine bI ?_
    obtain rfl := oI h0
    exact aF (aR (Q_r hO))
  refine bR ?_
  refine bC [(0, (eL aG f0))] ?_
  refine aW aD 1 [] [(3, (eI (-2 : Int)))] ?_
  refine iI (fun T H => Has T [] ∧ aK ⟨H0, [], []⟩ H [] ∧ tT  = some r) ?_ ?_
  · clear hO h0
    rintro T H ⟨hT, hO, h0⟩
    refine bK hT ?_
    clear hT
    unfold tT at h0
    refine cJ aD 1 [(2, (aC true))] ?_
    refine bI ?_
    obtain rfl := oI h0
    exact aF (Q_r hO)
  refine aW aD 3 [0] [(9, (eL aG f0)), (10, (eI (lN f0))), (11, (eI (0 : Int)))] ?_
  refine cC 0 ?_
  refine fQ [(3, (eI (-2 : Int))), (9, (eL aG f0)), (10, (eI (lN f0))), (11, (eI (0 : Int)))] ?_
  refine fV (fun T H => ∃ pI : Int, ∃ t9 : (List aB), ∃ t10 : Int, ∃ t11 : Int, Has T [(3, (eI pI)), (9, (eL aG t9)), (10, (eI t10)), (11, (eI t11))] ∧ aK ⟨H0, [], []⟩ H [] ∧ wU pI t9 t10 t11 = some r) ?_ ⟨(-2 : Int), f0, (lN f0), (0 : Int), .eq (by kernel_rfl), hO, h0⟩
  clear hO h0
  rintro T H ⟨pI, t9, t10, t11, hT, hO, h0⟩
  refine bK hT ?_
  clear hT
  unfold wU at h0
  obtain ⟨rr0, hl0, h0⟩ := aV h0
  refine dV (by kernel_rfl) (fun (s : Int × Int) T H => Has T [(3, (eI s.1)), (9, (eL aG t9)), (10, (eI t10)), (11, (eI s.2))] ∧ aK ⟨H0, [], []⟩ H []) hl0 ⟨.eq (by kernel_rfl), hO⟩ ?_
  clear hO
  rintro k0 s out1 T H ⟨hT, hO⟩ h1 ho0
  obtain ⟨pI, t11⟩ := s
  replace h1 : lS t9 t10 pI t11 = some out1 := h1
  try dsimp only at hT
  refine bK hT ?_
  clear hT
  unfold lS at h1
  refine aW aD 1 [] [(12, (aC (decide (t11 < t10))))] ?_
  refine aM ?_
  refine bQ h1 (fun h1 => ?_) (fun h1 => ?_)
  · refine bR ?_
    refine bC [(3, (eI pI)), (9, (eL aG t9)), (10, (eI t10)), (11, (eI t11))] ?_
    refine aM ?_
    refine cC 1 ?_
    refine aM ?_
    refine aS aD 4 ?_
    obtain ⟨c3, h1⟩ := aZ h1
    refine zA 2 [0 ≤ t11 ∧ t11 < (lN t9)] ⟨c3, trivial⟩ ?_
    refine jS 2 (aG (aB.mk 0 0)) (by kernel_rfl) (by kernel_rfl) hO ?_
    intro lo4 H hO
    refine fX 0 lo4 2 0 (aG (aB.mk 0 0)) (aG (gD t9 t11)) [(aG (aB.mk 0 0))] [(lo4, 2, [(aG (gD t9 t11))])] hO rfl (by kernel_rfl) ?_
    intro H hO
    refine dK ?_
    refine bU [] [(5, (.lp lo4 0 0))] ?_
    refine aM ?_
    refine aM ?_
    refine aS aD 20 ?_
    refine bN 1 ?_
    refine mO 0 lo4 2 0 (aG (gD t9 t11)) (eI ((gD t9 t11).At)) [(aG (gD t9 t11))] hO rfl ?_
    refine bN 6 ?_
    refine uV [(19, false)] 0 lo4 2 0 (aG (gD t9 t11)) (eI ((gD t9 t11).At)) [(aG (gD t9 t11))] (by kernel_rfl) (by kernel_rfl) hO (by kernel_rfl) (!(decide (((gD t9 t11).At) ≤ pI))) (by kernel_rfl) (fun hb5 => rfl) ?_
    refine bN 11 ?_
    refine uV [(24, false)] 0 lo4 2 0 (aG (gD t9 t11)) (eI ((gD t9 t11).Net)) [(aG (gD t9 t11))] (by kernel_rfl) (by kernel_rfl) hO (by kernel_rfl) (!((decide (((gD t9 t11).At) ≤ pI)) || (decide ((1125899906842624 : Int) ≤ ((gD t9 t11).At))))) (by kernel_rfl) (fun hb6 => rfl) ?_
    refine bN 16 ?_
    refine uV [(29, false)] 0 lo4 2 0 (aG (gD t9 t11)) (eI ((gD t9 t11).Net)) [(aG (gD t9 t11))] (by kernel_rfl) (by kernel_rfl) hO (by kernel_rfl) (!(((decide (((gD t9 t11).At) ≤ pI)) || (decide ((1125899906842624 : Int) ≤ ((gD t9 t11).At)))) || (decide (((gD t9 t11).Net) = (0 : Int))))) (by kernel_rfl) (fun hb7 => rfl) ?_
    obtain ⟨x8, hx9, h1⟩ := aV h1
    refine nB [(29, false)] 73 [(eI ((gD t9 t11).Net))] (aC x8) (!(((decide (((gD t9 t11).At) ≤ pI)) || (decide ((1125899906842624 : Int) ≤ ((gD t9 t11).At)))) || (decide (((gD t9 t11).Net) = (0 : Int))))) (by kernel_rfl) (by kernel_rfl) (by kernel_rfl) (fun hb10 => (RC ((gD t9 t11).Net) _ (jN hx9 hb10))) hO ?_
    intro H hO
    refine bA ?_
    refine bU [3] [(34, (aC ((((decide (((gD t9 t11).At) ≤ pI)) || (decide ((1125899906842624 : Int) ≤ ((gD t9 t11).At)))) || (decide (((gD t9 t11).Net) = (0 : Int)))) || (!x8))))] ?_
    refine bQ h1 (fun h1 => ?_) (fun h1 => ?_)
    · refine aM ?_
      refine aS aD 1 ?_
      refine bA ?_
      refine fC [(2, (aC false))] ?_
      replace hO := hO.pick (L' := []) [] (by decide) (by kernel_rfl)
      refine aF (aJ (?_))
      refine bI ?_
      obtain rfl := oI h1
      obtain rfl : _ = rr0 := ho0
      replace h0 : some false = some r := h0
      obtain rfl := oI h0
      exact aF (aR (bD (aR (aR (bD (aR (Q_r hO)))))))
    refine bR ?_
    refine bC [(5, (.lp lo4 0 0)), (9, (eL aG t9)), (10, (eI t10)), (11, (eI t11))] ?_
    refine aS aD 3 ?_
    refine bN 1 ?_
    refine mO 0 lo4 2 0 (aG (gD t9 t11)) (eI ((gD t9 t11).At)) [(aG (gD t9 t11))] hO rfl ?_
    refine bA ?_
    refine fC [(3, (eI ((gD t9 t11).At))), (9, (eL aG t9)), (10, (eI t10)), (11, (eI t11))] ?_
    replace hO := hO.pick (L' := []) [] (by decide) (by kernel_rfl)
    refine aF (aX (aJ (?_)))
    refine aS aD 2 ?_
    refine bA ?_
    exact aF (aJ (⟨rfl, _, (oI h1).symm, .eq (by kernel_rfl), hO⟩))
  refine jD 0 ?_
  obtain rfl := oI h1
  obtain rfl : _ = rr0 := ho0
  replace h0 : tT  = some r := h0
  exact aF (aY (aY (cD (aJ (⟨rfl, .eq (by kernel_rfl), hO, h0⟩)))))

theorem BU (l0 : (List aL)) (r : Bool) (h0 : qJ l0 = some r) : dH Try.prog 31 [(eL aO l0)] (aC r) := by
  intro H0
  refine dL Try.func31 ?_
  have hO := aK.start H0
  unfold qJ at h0
  refine aW aD 1 [] [] ?_
  refine aM ?_
  refine aS aD 3 ?_
  refine bN 1 ?_
  obtain ⟨x1, hx2, h0⟩ := aV h0
  refine dX (FJ l0 51 [] [] (fun y0 => lW y0) (fun y0 r h => tC y0 r h) _ hx2) hO ?_
  intro H hO
  refine bA ?_
  refine bC [(2, (aC x1))] ?_
  refine bI ?_
  obtain rfl := oI h0
  exact aF (Q_r hO)

theorem NW (f0 : (List aB)) (r : Int) (h0 : rY f0 = some r) : dH Try.prog 52 [(eL aG f0)] (eI r) := by
  intro H0
  refine dL Try.func52 ?_
  have hO := aK.start H0
  unfold rY at h0
  refine aW aD 1 [] [] ?_
  refine aM ?_
  refine aM ?_
  refine aS aD 8 ?_
  refine bN 1 ?_
  obtain ⟨x1, hx2, h0⟩ := aV h0
  refine dX (tC f0 _ hx2) hO ?_
  intro H hO
  refine bA ?_
  refine bU [] [(14, (aC ((!x1) || (decide ((lN f0) = (0 : Int))))))] ?_
  refine bQ h0 (fun h0 => ?_) (fun h0 => ?_)
  · refine cJ aD 1 [(2, (eI (0 : Int)))] ?_
    refine bI ?_
    obtain rfl := oI h0
    exact aF (aR (Q_r hO))
  refine bR ?_
  refine bC [(0, (eL aG f0))] ?_
  refine aW aD 2 [] [(3, (eI (0 : Int))), (4, (eI (0 : Int)))] ?_
  refine iI (fun T H => ∃ v3 : Int, ∃ gZ : Int, Has T [(0, (eL aG f0)), (3, (eI v3)), (4, (eI gZ))] ∧ aK ⟨H0, [], []⟩ H [] ∧ oM f0 v3 gZ = some r) ?_ ?_
  · clear hO h0
    rintro T H ⟨v3, gZ, hT, hO, h0⟩
    refine bK hT ?_
    clear hT
    unfold oM at h0
    refine iI (fun T H => ∃ gZ : Int, Has T [(4, (eI gZ))] ∧ aK ⟨H0, [], []⟩ H [] ∧ qR gZ = some r) ?_ ?_
    · clear hO h0
      rintro T H ⟨gZ, hT, hO, h0⟩
      refine bK hT ?_
      clear hT
      unfold qR at h0
      refine cJ aD 2 [(2, (eI gZ))] ?_
      refine bI ?_
      obtain rfl := oI h0
      exact aF (Q_r hO)
    refine aW aD 3 [0] [(24, (eL aG f0)), (25, (eI (lN f0))), (26, (eI (0 : Int)))] ?_
    refine cC 0 ?_
    refine fQ [(3, (eI v3)), (4, (eI gZ)), (24, (eL aG f0)), (25, (eI (lN f0))), (26, (eI (0 : Int)))] ?_
    refine fV (fun T H => ∃ v3 : Int, ∃ gZ : Int, ∃ t24 : (List aB), ∃ t25 : Int, ∃ t26 : Int, Has T [(3, (eI v3)), (4, (eI gZ)), (24, (eL aG t24)), (25, (eI t25)), (26, (eI t26))] ∧ aK ⟨H0, [], []⟩ H [] ∧ qT v3 gZ t24 t25 t26 = some r) ?_ ⟨v3, gZ, f0, (lN f0), (0 : Int), .eq (by kernel_rfl), hO, h0⟩
    clear hO h0
    rintro T H ⟨v3, gZ, t24, t25, t26, hT, hO, h0⟩
    refine bK hT ?_
    clear hT
    unfold qT at h0
    obtain ⟨rr0, hl0, h0⟩ := aV h0
    refine dV (by kernel_rfl) (fun (s : Int × Int × Int) T H => Has T [(3, (eI s.1)), (4, (eI s.2.1)), (24, (eL aG t24)), (25, (eI t25)), (26, (eI s.2.2))] ∧ aK ⟨H0, [], []⟩ H []) hl0 ⟨.eq (by kernel_rfl), hO⟩ ?_
    clear hO
    rintro k0 s out1 T H ⟨hT, hO⟩ h1 ho0
    obtain ⟨v3, gZ, t26⟩ := s
    replace h1 : mD t24 t25 v3 gZ t26 = some out1 := h1
    try dsimp only at hT
    refine bK hT ?_
    clear hT
    unfold mD at h1
    refine aW aD 1 [] [(27, (aC (decide (t26 < t25))))] ?_
    refine aM ?_
    refine bQ h1 (fun h1 => ?_) (fun h1 => ?_)
    · refine bR ?_
      refine bC [(3, (eI v3)), (4, (eI gZ)), (24, (eL aG t24)), (25, (eI t25)), (26, (eI t26))] ?_
      refine aM ?_
      refine cC 1 ?_
      refine aM ?_
      refine aS aD 4 ?_
      obtain ⟨c6, h1⟩ := aZ h1
      refine zA 2 [0 ≤ t26 ∧ t26 < (lN t24)] ⟨c6, trivial⟩ ?_
      refine jS 2 (aG (aB.mk 0 0)) (by kernel_rfl) (by kernel_rfl) hO ?_
      intro lo7 H hO
      refine fX 0 lo7 2 0 (aG (aB.mk 0 0)) (aG (gD t24 t26)) [(aG (aB.mk 0 0))] [(lo7, 2, [(aG (gD t24 t26))])] hO rfl (by kernel_rfl) ?_
      intro H hO
      refine dK ?_
      refine bU [] [(6, (.lp lo7 0 0))] ?_
      refine aM ?_
      refine aS aD 5 ?_
      refine bN 2 ?_
      refine mO 0 lo7 2 0 (aG (gD t24 t26)) (eI ((gD t24 t26).Net)) [(aG (gD t24 t26))] hO rfl ?_
      refine bA ?_
      replace hO := hO.pick (L' := []) [] (by decide) (by kernel_rfl)
      refine bU [3, 6] [(3, (eI (wR (v3 + ((gD t24 t26).Net)))))] ?_
      refine aS aD 4 ?_
      refine bA ?_
      refine fC [(3, (eI (wR (v3 + ((gD t24 t26).Net))))), (4, (eI (if (wR (v3 + ((gD t24 t26).Net))) < gZ then (wR (v3 + ((gD t24 t26).Net))) else gZ))), (24, (eL aG t24)), (25, (eI t25)), (26, (eI t26))] ?_
      refine aF (aX (aJ (?_)))
      refine aS aD 2 ?_
      refine bA ?_
      exact aF (aJ (⟨rfl, _, (oI h1).symm, .eq (by kernel_rfl), hO⟩))
    refine jD 0 ?_
    obtain rfl := oI h1
    obtain rfl : _ = rr0 := ho0
    replace h0 : qR gZ = some r := h0
    exact aF (aY (aY (cD (aJ (⟨rfl, _, .eq (by kernel_rfl), hO, h0⟩)))))
  refine aM ?_
  refine aS aD 5 ?_
  obtain ⟨c8, h0⟩ := aZ h0
  refine rR [0 ≤ (0 : Int) ∧ (0 : Int) < (lN f0)] ⟨c8, trivial⟩ ?_
  refine bU [] [(19, (aC (decide (((gD f0 (0 : Int)).At) = (-1 : Int)))))] ?_
  refine bQ h0 (fun h0 => ?_) (fun h0 => ?_)
  · refine aS aD 5 ?_
    obtain ⟨c10, h0⟩ := aZ h0
    refine rR [0 ≤ (0 : Int) ∧ (0 : Int) < (lN f0)] ⟨c10, trivial⟩ ?_
    exact aF (aJ (⟨rfl, _, _, .eq (by kernel_rfl), hO, h0⟩))
  refine bR ?_
  exact aF (aJ (⟨rfl, _, _, .eq (by kernel_rfl), hO, h0⟩))

theorem JT (f0 : (List aB)) (r : Bool) (h0 : pT f0 = some r) : dH Try.prog 50 [(eL aG f0)] (aC r) := by
  intro H0
  refine dL Try.func50 ?_
  have hO := aK.start H0
  unfold pT at h0
  refine aW aD 1 [] [] ?_
  refine aM ?_
  refine aS aD 8 ?_
  refine bN 1 ?_
  obtain ⟨x1, hx2, h0⟩ := aV h0
  refine dX (tC f0 _ hx2) hO ?_
  intro H hO
  refine bN 4 ?_
  obtain ⟨x4, hx5, h0⟩ := aV h0
  refine nB [(5, true)] 52 [(eL aG f0)] (eI x4) x1 (by kernel_rfl) (by kernel_rfl) (by kernel_rfl) (fun hb6 => (NW f0 _ (jN hx5 hb6))) hO ?_
  intro H hO
  refine bA ?_
  refine bC [(2, (aC (x1 && (decide ((0 : Int) ≤ x4)))))] ?_
  refine bI ?_
  obtain rfl := oI h0
  exact aF (Q_r hO)

theorem CW (l0 : (List aL)) (r : Bool) (h0 : pM l0 = some r) : dH Try.prog 23 [(eL aO l0)] (aC r) := by
  intro H0
  refine dL Try.func23 ?_
  have hO := aK.start H0
  unfold pM at h0
  refine aW aD 1 [] [] ?_
  refine aM ?_
  refine aS aD 3 ?_
  refine bN 1 ?_
  obtain ⟨x1, hx2, h0⟩ := aV h0
  refine dX (FJ l0 50 [] [] (fun y0 => pT y0) (fun y0 r h => JT y0 r h) _ hx2) hO ?_
  intro H hO
  refine bA ?_
  refine bC [(2, (aC x1))] ?_
  refine bI ?_
  obtain rfl := oI h0
  exact aF (Q_r hO)

theorem MF (l0 : (List aL)) (r : (List aL)) (h0 : uL l0 = some r) : dH Try.prog 32 [(eL aO l0)] (.fn (.func 55) [] [(.rp (eL aO r))]) := by
  intro H0
  refine dL Try.func32 ?_
  have hO := aK.start H0
  unfold uL at h0
  refine aM ?_
  refine aS aD 2 ?_
  refine gM 1 (eL aO l0) (by kernel_rfl) (by kernel_rfl) ?_
  refine bA ?_
  refine bC [(1, (.rp (eL aO l0)))] ?_
  refine cJ aD 2 [(2, (.fn (.func 55) [] [(.rp (eL aO l0))]))] ?_
  refine bI ?_
  obtain rfl := oI h0
  exact aF (kY (x := (.fn (.func 55) [] [(.rp (eL aO l0))])) (by kernel_rfl) (aN.refl _) ⟨rfl, hO.out⟩)

theorem FB {σ : Type} (I : σ → Gs → Prop) (yield0_b : Nat) (cK : σ → (List aE) → (List aB) → Option (σ × Bool)) (yield0_h : ∀ st a0 a1 st2 r, cK st a0 a1 = some (st2, r) → xT Try.prog (yv yield0_b) I st [(eL aH a0), (eL aG a1)] st2 (aC r)) (t1 : (List aL)) (sg0 : σ) (r : σ) (h0 : nM cK t1 sg0 = some r) : uJ Try.prog 55 I sg0 [(yv yield0_b), (.rp (eL aO t1))] r (.tup []) := by
  intro H0 G0 hI hg
  refine yK aD Try.func55 (by kernel_rfl) (by kernel_rfl) (by kernel_rfl) ?_
  obtain ⟨G, hO, hI⟩ : ∃ G, aK ⟨H0, List.map (fun p : Nat × cT => p.1) G0, G⟩ H0 [] ∧ I sg0 G := ⟨G0, aK.AL hg, hI⟩
  clear hg
  unfold nM at h0
  refine aM ?_
  refine aS aD 1 ?_
  refine gM 1 (yv yield0_b) (by kernel_rfl) (by kernel_rfl) ?_
  refine dK ?_
  refine bU [0] [(2, (.rp (yv yield0_b)))] ?_
  refine aM ?_
  refine aM ?_
  refine aS aD 3 ?_
  refine bN 1 ?_
  obtain ⟨x1, hx2, h0⟩ := aV h0
  refine dX (BU t1 _ hx2) hO ?_
  intro H hO
  refine bA ?_
  refine bU [] [(7, (aC (!x1)))] ?_
  refine bQ h0 (fun h0 => ?_) (fun h0 => ?_)
  · refine bI ?_
    obtain rfl := oI h0
    exact aF (aR (QM0 (.inr rfl) (rs := []) (xs := []) (x := (.tup [])) (by kernel_rfl) lM (by kernel_rfl) ⟨rfl, G, hI, hO.wK⟩))
  refine bR ?_
  refine bC [(1, (.rp (eL aO t1))), (2, (.rp (yv yield0_b)))] ?_
  refine aM ?_
  refine aS aD 2 ?_
  refine bN 1 ?_
  obtain ⟨x5, hx6, h0⟩ := aV h0
  refine dX (AH t1 _ hx6) hO ?_
  intro H hO
  refine dK ?_
  refine bU [1] [(9, (.fn (.func 74) [] [(.rp (eL aO x5))]))] ?_
  refine cC 0 ?_
  refine fQ [(2, (.rp (yv yield0_b))), (9, (.fn (.func 74) [] [(.rp (eL aO x5))]))] ?_
  refine fV (fun T H => ∃ sg : σ, ∃ t9c0 : (List aL), ∃ G : Gs, Has T [(2, (.rp (yv yield0_b))), (9, (.fn (.func 74) [] [(.rp (eL aO t9c0))]))] ∧ aK ⟨H0, List.map (fun p : Nat × cT => p.1) G0, G⟩ H [] ∧ I sg G ∧ oV cK sg t9c0 = some r) ?_ ⟨sg0, x5, G, .eq (by kernel_rfl), hO, hI, h0⟩
  clear hO hI h0
  rintro T H ⟨sg, t9c0, G, hT, hO, hI, h0⟩
  refine bK (l := [(2, (.rp (yv yield0_b))), (9, (.fn (.func 74) [] [(.rp (eL aO t9c0))]))]) hT ?_
  clear hT
  unfold oV at h0
  obtain ⟨o0, hl0, h0⟩ := aV h0
  refine wO (fid := 74) (ys := []) (cs := [(.rp (eL aO t9c0))]) #[10, 11] (fun (A : qO) (b lL : Nat) (st : (σ) ⊕ (σ)) (G' : Gs) => Sum.elim (fun (s : σ) => ∃ G : Gs, I s G ∧ G' = (lL, .raw (fN b A .ready none)) :: (up [] ++ G)) (fun (s : σ) => ∃ G : Gs, I s G ∧ G' = (lL, .raw (fN b A .done (some .ret))) :: (up [] ++ G)) st) (.inl sg) o0 (.tup []) (by kernel_rfl) (by kernel_rfl) (by kernel_rfl) hO (fun _ _ => ⟨G, hI, rfl⟩) ?_ ?_
  · intro b lL
    clear hO hI h0
    refine vO _ b (fun st t10 t11 => rnd (fun (s : σ) => kN cK t9c0 s t10 t11) st) ?_ t9c0 _ _ hl0
    intro st t10 t11 out1 rr hr
    obtain ⟨s, rfl, h1, rfl⟩ := GO hr
    clear hr
    intro Hr Gr hi hg
    obtain ⟨sg, rfl⟩ : ∃ x, x = s := ⟨_, rfl⟩
    dsimp only [Sum.elim_inl] at hi
    obtain ⟨G, hI, rfl⟩ := hi
    replace h1 : kN cK t9c0 sg t10 t11 = some out1 := h1
    unfold kN at h1
    obtain ⟨E1, hE, hO⟩ := oY hg
    refine pH (uM (hO.gm 0 _ rfl).2 (by kernel_rfl) (by kernel_rfl) ?_)
    refine fQ [(2, (.rp (yv yield0_b))), (9, (.fn (.func 74) [] [(.rp (eL aO t9c0))])), (10, (eL aH t10)), (11, (eL aG t11))] ?_
    refine aW aD 1 [9, 10] [(3, (eL aH t10))] ?_
    refine aS aD 1 ?_
    refine bA ?_
    refine fC [(2, (.rp (yv yield0_b))), (3, (eL aH t10)), (4, (eL aG t11))] ?_
    refine aF (⟨rfl, rfl, (hO.gm 0 _ rfl).2, ?_⟩)
    intro o1 ho1
    replace hO := hO.mX o1
    refine cC 1 ?_
    refine aM ?_
    refine aS aD 5 ?_
    refine bN 3 ?_
    obtain ⟨x7, hx8, h1⟩ := aV h1
    refine ZV (I := I) (yv yield0_b) [(eL aH t10), (eL aG t11)] (aC x7.2) (by kernel_rfl) (by kernel_rfl) (yield0_h _ t10 t11 x7.1 x7.2 hx8) hO hI ?_
    intro G H hO hI
    refine bA ?_
    refine bC [(16, (aC (!x7.2)))] ?_
    refine bQ h1 (fun h1 => ?_) (fun h1 => ?_)
    · refine bI ?_
      refine fC [] ?_
      obtain rfl := oI h1
      exact aF (bD (⟨(dB hO hE ho1 .dead).1, rfl, _, ⟨G, hI, rfl⟩, (dB hO hE ho1 _).2⟩))
    refine bR ?_
    refine fC [] ?_
    obtain rfl := oI h1
    exact aF (aX (⟨(dB hO hE ho1 .dead).1, rfl, _, ⟨G, hI, rfl⟩, (dB hO hE ho1 _).2⟩))
  · intro b lD10 lL H' G' hi hO
    rcases o0 with s | s
    · dsimp only [Sum.elim_inl] at hi
      obtain ⟨G, hI, rfl⟩ := hi
      replace h0 : (some s) = some r := h0
      obtain ⟨hlL, hO⟩ := lH hO
      refine ⟨_, _, hlL, (by intro e; cases e), ?_⟩
      obtain rfl := oI h0
      have hD := (hO.gm 0 _ rfl).2
      replace hO := (hO.mX .dead).nQ
      exact aF (aX (QM1 (.inl rfl) hD (rs := []) (xs := []) (x := (.tup [])) (by kernel_rfl) lM (by kernel_rfl) ⟨rfl, G, hI, hO.wK⟩))
    · dsimp only [Sum.elim_inr] at hi
      obtain ⟨G, hI, rfl⟩ := hi
      replace h0 : (some s) = some r := h0
      obtain ⟨hlL, hO⟩ := lH hO
      refine ⟨_, _, hlL, (by intro e; cases e), ?_⟩
      refine bI ?_
      obtain rfl := oI h0
      have hD := (hO.gm 0 _ rfl).2
      replace hO := (hO.mX .dead).nQ
      exact aF (bD (QM1 (.inr rfl) hD (rs := []) (xs := []) (x := (.tup [])) (by kernel_rfl) lM (by kernel_rfl) ⟨rfl, G, hI, hO.wK⟩))

theorem EZ (x0 : Int) (r : Int) (h0 : nH x0 = some r) : dH Try.prog 88 [(cR .u64 x0)] (eI r) := by
  intro H0
  refine dL Try.func88 ?_
  have hO := aK.start H0
  unfold nH at h0
  refine aW aD 1 [] [(2, (eI (0 : Int)))] ?_
  refine iI (fun T H => ∃ x0 : Int, ∃ n2 : Int, Has T [(0, (cR .u64 x0)), (2, (eI n2))] ∧ aK ⟨H0, [], []⟩ H [] ∧ kI x0 n2 = some r) ?_ ?_
  · clear hO h0
    rintro T H ⟨x0, n2, hT, hO, h0⟩
    refine bK hT ?_
    clear hT
    unfold kI at h0
    refine iI (fun T H => ∃ x0 : Int, ∃ n2 : Int, Has T [(0, (cR .u64 x0)), (2, (eI n2))] ∧ aK ⟨H0, [], []⟩ H [] ∧ kJ x0 n2 = some r) ?_ ?_
    · clear hO h0
      rintro T H ⟨x0, n2, hT, hO, h0⟩
      refine bK hT ?_
      clear hT
      unfold kJ at h0
      refine iI (fun T H => ∃ x0 : Int, ∃ n2 : Int, Has T [(0, (cR .u64 x0)), (2, (eI n2))] ∧ aK ⟨H0, [], []⟩ H [] ∧ lO x0 n2 = some r) ?_ ?_
      · clear hO h0
        rintro T H ⟨x0, n2, hT, hO, h0⟩
        refine bK hT ?_
        clear hT
        unfold lO at h0
        refine aM ?_
        refine aS aD 7 ?_
        obtain ⟨c1, h0⟩ := aZ h0
        refine rR [0 ≤ (IntKind.u8.wrap x0) ∧ (IntKind.u8.wrap x0) < ((ByteArray.size (⟨#[0, 1, 2, 2, 3, 3, 3, 3, 4, 4, 4, 4, 4, 4, 4, 4, 5, 5, 5, 5, 5, 5, 5, 5, 5, 5, 5, 5, 5, 5, 5, 5, 6, 6, 6, 6, 6, 6, 6, 6, 6, 6, 6, 6, 6, 6, 6, 6, 6, 6, 6, 6, 6, 6, 6, 6, 6, 6, 6, 6, 6, 6, 6, 6, 7, 7, 7, 7, 7, 7, 7, 7, 7, 7, 7, 7, 7, 7, 7, 7, 7, 7, 7, 7, 7, 7, 7, 7, 7, 7, 7, 7, 7, 7, 7, 7, 7, 7, 7, 7, 7, 7, 7, 7, 7, 7, 7, 7, 7, 7, 7, 7, 7, 7, 7, 7, 7, 7, 7, 7, 7, 7, 7, 7, 7, 7, 7, 7, 8, 8, 8, 8, 8, 8, 8, 8, 8, 8, 8, 8, 8, 8, 8, 8, 8, 8, 8, 8, 8, 8, 8, 8, 8, 8, 8, 8, 8, 8, 8, 8, 8, 8, 8, 8, 8, 8, 8, 8, 8, 8, 8, 8, 8, 8, 8, 8, 8, 8, 8, 8, 8, 8, 8, 8, 8, 8, 8, 8, 8, 8, 8, 8, 8, 8, 8, 8, 8, 8, 8, 8, 8, 8, 8, 8, 8, 8, 8, 8, 8, 8, 8, 8, 8, 8, 8, 8, 8, 8, 8, 8, 8, 8, 8, 8, 8, 8, 8, 8, 8, 8, 8, 8, 8, 8, 8, 8, 8, 8, 8, 8, 8, 8, 8, 8, 8, 8, 8, 8, 8, 8, 8, 8, 8, 8, 8, 8]⟩ : ByteArray) : Nat) : Int)] ⟨c1, trivial⟩ ?_
        refine bC [(2, (eI (wR (n2 + (wR (bt (⟨#[0, 1, 2, 2, 3, 3, 3, 3, 4, 4, 4, 4, 4, 4, 4, 4, 5, 5, 5, 5, 5, 5, 5, 5, 5, 5, 5, 5, 5, 5, 5, 5, 6, 6, 6, 6, 6, 6, 6, 6, 6, 6, 6, 6, 6, 6, 6, 6, 6, 6, 6, 6, 6, 6, 6, 6, 6, 6, 6, 6, 6, 6, 6, 6, 7, 7, 7, 7, 7, 7, 7, 7, 7, 7, 7, 7, 7, 7, 7, 7, 7, 7, 7, 7, 7, 7, 7, 7, 7, 7, 7, 7, 7, 7, 7, 7, 7, 7, 7, 7, 7, 7, 7, 7, 7, 7, 7, 7, 7, 7, 7, 7, 7, 7, 7, 7, 7, 7, 7, 7, 7, 7, 7, 7, 7, 7, 7, 7, 8, 8, 8, 8, 8, 8, 8, 8, 8, 8, 8, 8, 8, 8, 8, 8, 8, 8, 8, 8, 8, 8, 8, 8, 8, 8, 8, 8, 8, 8, 8, 8, 8, 8, 8, 8, 8, 8, 8, 8, 8, 8, 8, 8, 8, 8, 8, 8, 8, 8, 8, 8, 8, 8, 8, 8, 8, 8, 8, 8, 8, 8, 8, 8, 8, 8, 8, 8, 8, 8, 8, 8, 8, 8, 8, 8, 8, 8, 8, 8, 8, 8, 8, 8, 8, 8, 8, 8, 8, 8, 8, 8, 8, 8, 8, 8, 8, 8, 8, 8, 8, 8, 8, 8, 8, 8, 8, 8, 8, 8, 8, 8, 8, 8, 8, 8, 8, 8, 8, 8, 8, 8, 8, 8, 8, 8, 8, 8]⟩ : ByteArray) (IntKind.u8.wrap x0)))))))] ?_
        refine bI ?_
        obtain rfl := oI h0
        exact aF (Q_r hO)
      refine aW aD 2 [] [(14, (aC (decide ((256 : Int) ≤ x0))))] ?_
      refine bQ h0 (fun h0 => ?_) (fun h0 => ?_)
      · refine aM ?_
        refine aS aD 3 ?_
        obtain ⟨c3, h0⟩ := aZ h0
        refine rR [0 ≤ (8 : Int)] ⟨c3, trivial⟩ ?_
        refine bC [(0, (cR .u64 (Int.fdiv x0 (2 ^ (min (Int.toNat (8 : Int)) 64))))), (2, (eI n2))] ?_
        refine aS aD 3 ?_
        refine bA ?_
        exact aF (aJ (⟨rfl, _, _, .eq (by kernel_rfl), hO, h0⟩))
      refine bR ?_
      exact aF (aJ (⟨rfl, _, _, .eq (by kernel_rfl), hO, h0⟩))
    refine aW aD 2 [] [(8, (aC (decide ((65536 : Int) ≤ x0))))] ?_
    refine bQ h0 (fun h0 => ?_) (fun h0 => ?_)
    · refine aM ?_
      refine aS aD 3 ?_
      obtain ⟨c5, h0⟩ := aZ h0
      refine rR [0 ≤ (16 : Int)] ⟨c5, trivial⟩ ?_
      refine bC [(0, (cR .u64 (Int.fdiv x0 (2 ^ (min (Int.toNat (16 : Int)) 64))))), (2, (eI n2))] ?_
      refine aS aD 3 ?_
      refine bA ?_
      exact aF (aJ (⟨rfl, _, _, .eq (by kernel_rfl), hO, h0⟩))
    refine bR ?_
    exact aF (aJ (⟨rfl, _, _, .eq (by kernel_rfl), hO, h0⟩))
  refine aW aD 2 [] [(4, (aC (decide ((4294967296 : Int) ≤ x0))))] ?_
  refine bQ h0 (fun h0 => ?_) (fun h0 => ?_)
  · refine aM ?_
    refine aS aD 3 ?_
    obtain ⟨c7, h0⟩ := aZ h0
    refine rR [0 ≤ (32 : Int)] ⟨c7, trivial⟩ ?_
    refine bC [(0, (cR .u64 (Int.fdiv x0 (2 ^ (min (Int.toNat (32 : Int)) 64)))))] ?_
    refine aS aD 1 ?_
    refine bA ?_
    exact aF (aJ (⟨rfl, _, _, .eq (by kernel_rfl), hO, h0⟩))
  refine bR ?_
  exact aF (aJ (⟨rfl, _, _, .eq (by kernel_rfl), hO, h0⟩))

theorem zY (x0 : Int) (r : Int) (h0 : jY x0 = some r) : dH Try.prog 62 [(cR .u64 x0)] (eI r) := by
  intro H0
  refine dL Try.func62 ?_
  have hO := aK.start H0
  unfold jY at h0
  refine aW aD 1 [] [] ?_
  refine aM ?_
  refine lV (false) (fun hc1 => ?_) (fun hc1 => ?_)
  · cases hc1
  · refine bR ?_
    refine aF (aJ ?_)
    refine aM ?_
    refine aS aD 3 ?_
    refine bN 1 ?_
    obtain ⟨x2, hx3, h0⟩ := aV h0
    refine dX (EZ x0 _ hx3) hO ?_
    intro H hO
    refine bA ?_
    refine bC [(2, (eI x2))] ?_
    refine bI ?_
    obtain rfl := oI h0
    exact aF (Q_r hO)

theorem fJ (x0 : Int) (y1 : Int) (r : Bool) (h0 : cY x0 y1 = some r) : dH Try.prog 84 [(eI x0), (eI y1)] (aC r) := by
  intro H0
  refine dL Try.func84 ?_
  have hO := aK.start H0
  unfold cY at h0
  refine aW aD 1 [] [] ?_
  refine aM ?_
  refine aS aD 13 ?_
  refine bN 1 ?_
  obtain ⟨x1, hx2, h0⟩ := aV h0
  refine dX (rW x0 _ hx2) hO ?_
  intro H hO
  refine bN 4 ?_
  obtain ⟨x4, hx5, h0⟩ := aV h0
  refine nB [(7, true)] 105 [(eI y1)] (aC x4) x1 (by kernel_rfl) (by kernel_rfl) (by kernel_rfl) (fun hb6 => (rW y1 _ (jN hx5 hb6))) hO ?_
  intro H hO
  refine bA ?_
  refine bC [(4, (aC ((x1 && (!x4)) || (decide (x0 < y1)))))] ?_
  refine bI ?_
  obtain rfl := oI h0
  exact aF (Q_r hO)

theorem tQ (lo0p : Nat) (aA : (List Int)) (a1 : Int) (b2 : Int) (r : List Int) (h0 : gK aA a1 b2 = some r) : mS Try.prog 78 lo0p 1 (List.map (eI) aA) (List.map (eI) r) [(.msl 1 lo0p 0 (List.length aA)), (eI a1), (eI b2)] (.tup []) := by
  intro H0 hl0
  refine dL Try.func78 ?_
  have hO := aK.qX hl0
  clear hl0
  obtain ⟨N0, hN0⟩ : ∃ n, n = List.length aA := ⟨_, rfl⟩
  have hN : List.length aA = N0 := hN0.symm
  unfold gK at h0
  refine aW aD 3 [] [(6, (eI (wR (a1 + (1 : Int)))))] ?_
  refine cC 0 ?_
  refine fQ [(0, (.msl 1 lo0p 0 (List.length aA))), (1, (eI a1)), (2, (eI b2)), (6, (eI (wR (a1 + (1 : Int)))))] ?_
  refine fV (fun T H => ∃ aA : List Int, ∃ i6 : Int, Has T [(0, (.msl 1 lo0p 0 (List.length aA))), (1, (eI a1)), (2, (eI b2)), (6, (eI i6))] ∧ aK ⟨H0, [lo0p], []⟩ H [(lo0p, 1, List.map (eI) aA)] ∧ List.length aA = N0 ∧ iZ aA a1 b2 i6 = some r) ?_ ⟨aA, wR (a1 + (1 : Int)), .eq (by kernel_rfl), hO, hN, h0⟩
  clear hO hN h0
  rintro T H ⟨aA, i6, hT, hO, hN, h0⟩
  refine bK hT ?_
  clear hT
  unfold iZ at h0
  obtain ⟨rr0, hl0, h0⟩ := aV h0
  refine dV (by kernel_rfl) (fun (s : List Int × Int) T H => Has T [(0, (.msl 1 lo0p 0 (List.length s.1))), (1, (eI a1)), (2, (eI b2)), (6, (eI s.2))] ∧ aK ⟨H0, [lo0p], []⟩ H [(lo0p, 1, List.map (eI) s.1)] ∧ List.length s.1 = N0) hl0 ⟨.eq (by kernel_rfl), hO, hN⟩ ?_
  clear hO hN
  rintro k0 s out1 T H ⟨hT, hO, hN⟩ h1 ho0
  obtain ⟨aA, i6⟩ := s
  replace h1 : cZ a1 b2 aA i6 = some out1 := h1
  try dsimp only at hT
  refine bK hT ?_
  clear hT
  unfold cZ at h1
  refine aM ?_
  refine aW aD 3 [] [(12, (aC (decide (i6 < b2))))] ?_
  refine bQ h1 (fun h1 => ?_) (fun h1 => ?_)
  · refine bR ?_
    refine bC [(0, (.msl 1 lo0p 0 (List.length aA))), (1, (eI a1)), (2, (eI b2)), (6, (eI i6))] ?_
    refine iI (fun T H => ∃ aA : List Int, Has T [(0, (.msl 1 lo0p 0 (List.length aA))), (1, (eI a1)), (2, (eI b2)), (6, (eI i6))] ∧ aK ⟨H0, [lo0p], []⟩ H [(lo0p, 1, List.map (eI) aA)] ∧ List.length aA = N0 ∧ fZ aA a1 b2 i6 = some out1) ?_ ?_
    · clear hO hN h1
      rintro T H ⟨aA, hT, hO, hN, h1⟩
      refine bK hT ?_
      clear hT
      unfold fZ at h1
      refine aS aD 3 ?_
      refine bA ?_
      exact aF (aJ (⟨rfl, _, (oI h1).symm, .eq (by kernel_rfl), hO, hN⟩))
    refine cC 1 ?_
    refine aW aD 2 [] [(7, (eI i6))] ?_
    refine cC 2 ?_
    refine fQ [(0, (.msl 1 lo0p 0 (List.length aA))), (1, (eI a1)), (2, (eI b2)), (6, (eI i6)), (7, (eI i6))] ?_
    refine fV (fun T H => ∃ aA : List Int, ∃ j7 : Int, Has T [(0, (.msl 1 lo0p 0 (List.length aA))), (1, (eI a1)), (2, (eI b2)), (6, (eI i6)), (7, (eI j7))] ∧ aK ⟨H0, [lo0p], []⟩ H [(lo0p, 1, List.map (eI) aA)] ∧ List.length aA = N0 ∧ iY aA a1 b2 i6 j7 = some out1) ?_ ⟨aA, i6, .eq (by kernel_rfl), hO, hN, h1⟩
    clear hO hN h1
    rintro T H ⟨aA, j7, hT, hO, hN, h1⟩
    refine bK hT ?_
    clear hT
    unfold iY at h1
    obtain ⟨rr1, hl1, h1⟩ := aV h1
    refine dV (by kernel_rfl) (fun (s : List Int × Int) T H => Has T [(0, (.msl 1 lo0p 0 (List.length s.1))), (1, (eI a1)), (2, (eI b2)), (6, (eI i6)), (7, (eI s.2))] ∧ aK ⟨H0, [lo0p], []⟩ H [(lo0p, 1, List.map (eI) s.1)] ∧ List.length s.1 = N0) hl1 ⟨.eq (by kernel_rfl), hO, hN⟩ ?_
    clear hO hN
    rintro k1 s out2 T H ⟨hT, hO, hN⟩ h2 ho1
    obtain ⟨aA, j7⟩ := s
    replace h2 : eT a1 b2 i6 aA j7 = some out2 := h2
    try dsimp only at hT
    refine bK hT ?_
    clear hT
    unfold eT at h2
    refine aM ?_
    refine aM ?_
    obtain ⟨c2, h2⟩ := aZ h2
    obtain ⟨c3, h2⟩ := aZ h2
    obtain ⟨x4, hx5, h2⟩ := aV h2
    refine gI (gH []) aD 15 ?_
    refine oR (K := fun T H => Has (lift T) [(0, (.msl 1 lo0p 0 (List.length aA))), (1, (eI a1)), (2, (eI b2)), (6, (eI i6)), (7, (eI j7)), (30, (aC ((decide (a1 < j7)) && x4)))] ∧ aK ⟨H0, [lo0p], []⟩ H [(lo0p, 1, List.map (eI) aA)]) ?_ ?_
    · refine lR 4 ?_
      refine nT (t := 19) (e := decide (a1 < j7)) (by kernel_rfl) (fun hg6 => ?_) (fun hg6 => ?_)
      · refine cH 7 [0 ≤ j7 ∧ j7 < (lN aA)] ⟨(c2 hg6), trivial⟩ ?_
        refine jI 0 lo0p 1 (0 + Int.toNat j7) (eI (gD aA j7)) (eI (gD aA j7)) (List.map (eI) aA) (by kernel_rfl) (by kernel_rfl) (by kernel_rfl) hO (by kernel_rfl) (bW (c2 hg6)) ?_
        refine cH 12 [0 ≤ (wR (j7 - (1 : Int))) ∧ (wR (j7 - (1 : Int))) < (lN aA)] ⟨(c3 hg6), trivial⟩ ?_
        refine jI 0 lo0p 1 (0 + Int.toNat (wR (j7 - (1 : Int)))) (eI (gD aA (wR (j7 - (1 : Int))))) (eI (gD aA (wR (j7 - (1 : Int))))) (List.map (eI) aA) (by kernel_rfl) (by kernel_rfl) (by kernel_rfl) hO (by kernel_rfl) (bW (c3 hg6)) ?_
        refine nX 84 [(eI (gD aA j7)), (eI (gD aA (wR (j7 - (1 : Int)))))] (aC x4) (by kernel_rfl) (by kernel_rfl) (fJ (gD aA j7) (gD aA (wR (j7 - (1 : Int)))) _ (jN hx5 hg6)) hO ?_
        intro H hO
        refine kM ?_
        exact ⟨⟨[(0, (.msl 1 lo0p 0 (List.length aA))), (1, (eI a1)), (2, (eI b2)), (6, (eI i6)), (7, (eI j7)), (30, (aC x4))], by kernel_rfl, rfl, ⟨aN.refl _, aN.refl _, aN.refl _, aN.refl _, aN.refl _, aN.eq (congrArg aC (nA hg6 rfl).symm), trivial⟩⟩, hO⟩
      refine kM ?_
      exact ⟨⟨[(0, (.msl 1 lo0p 0 (List.length aA))), (1, (eI a1)), (2, (eI b2)), (6, (eI i6)), (7, (eI j7)), (30, (aC false))], by kernel_rfl, rfl, ⟨aN.refl _, aN.refl _, aN.refl _, aN.refl _, aN.refl _, aN.eq (congrArg aC (nA hg6 rfl).symm), trivial⟩⟩, hO⟩
    · rintro T H ⟨hT, hO⟩
      refine eD hT ?_
      clear hT
      refine aF (aJ ?_)
      refine bQ h2 (fun h2 => ?_) (fun h2 => ?_)
      · refine bR ?_
        refine bC [(0, (.msl 1 lo0p 0 (List.length aA))), (1, (eI a1)), (2, (eI b2)), (6, (eI i6)), (7, (eI j7))] ?_
        refine aM ?_
        refine cC 3 ?_
        refine gI (gH []) aD 18 ?_
        obtain ⟨c8, h2⟩ := aZ h2
        refine cH 9 [0 ≤ (wR (j7 - (1 : Int))) ∧ (wR (j7 - (1 : Int))) < (lN aA)] ⟨c8, trivial⟩ ?_
        refine gW 0 lo0p 1 (0 + Int.toNat (wR (j7 - (1 : Int)))) (eI (gD aA (wR (j7 - (1 : Int))))) (eI (gD aA (wR (j7 - (1 : Int))))) (List.map (eI) aA) hO (bW c8) ?_
        obtain ⟨c9, h2⟩ := aZ h2
        refine cH 13 [0 ≤ j7 ∧ j7 < (lN aA)] ⟨c9, trivial⟩ ?_
        refine gW 0 lo0p 1 (0 + Int.toNat j7) (eI (gD aA j7)) (eI (gD aA j7)) (List.map (eI) aA) hO (bW c9) ?_
        obtain ⟨c10, h2⟩ := aZ h2
        refine cH 15 [0 ≤ j7 ∧ j7 < (lN aA)] ⟨c10, trivial⟩ ?_
        refine kP 0 lo0p 1 (0 + Int.toNat j7) (eI (gD aA j7)) (eI (gD aA (wR (j7 - (1 : Int))))) (List.map (eI) aA) [(lo0p, 1, List.map (eI) (List.set aA (Int.toNat j7) (gD aA (wR (j7 - (1 : Int))))))] hO (bW c10) (by simp only [List.set, hU]) ?_
        intro H hO
        replace hN : List.length (List.set aA (Int.toNat j7) (gD aA (wR (j7 - (1 : Int))))) = N0 := by simpa using hN
        obtain ⟨c11, h2⟩ := aZ h2
        refine cH 17 [0 ≤ (wR (j7 - (1 : Int))) ∧ (wR (j7 - (1 : Int))) < (lN aA)] ⟨c11, trivial⟩ ?_
        refine kP 0 lo0p 1 (0 + Int.toNat (wR (j7 - (1 : Int)))) (eI (gD (List.set aA (Int.toNat j7) (gD aA (wR (j7 - (1 : Int))))) (wR (j7 - (1 : Int))))) (eI (gD aA j7)) (List.map (eI) (List.set aA (Int.toNat j7) (gD aA (wR (j7 - (1 : Int)))))) [(lo0p, 1, List.map (eI) (List.set (List.set aA (Int.toNat j7) (gD aA (wR (j7 - (1 : Int))))) (Int.toNat (wR (j7 - (1 : Int)))) (gD aA j7)))] hO (mN c11 (by simp [])) (by simp only [List.set, hU]) ?_
        intro H hO
        replace hN : List.length (List.set (List.set aA (Int.toNat j7) (gD aA (wR (j7 - (1 : Int))))) (Int.toNat (wR (j7 - (1 : Int)))) (gD aA j7)) = N0 := by simpa using hN
        refine nC (by kernel_rfl) ?_
        refine eD (l := [(0, (.msl 1 lo0p 0 (List.length (List.set (List.set aA (Int.toNat j7) (gD aA (wR (j7 - (1 : Int))))) (Int.toNat (wR (j7 - (1 : Int)))) (gD aA j7))))), (1, (eI a1)), (2, (eI b2)), (6, (eI i6)), (7, (eI j7))]) ⟨[(0, (.msl 1 lo0p 0 (List.length aA))), (1, (eI a1)), (2, (eI b2)), (6, (eI i6)), (7, (eI j7))], by kernel_rfl, rfl, ⟨aN.eq (by simp []), aN.refl _, aN.refl _, aN.refl _, aN.refl _, trivial⟩⟩ ?_
        refine aF (aX (aJ (?_)))
        refine aS aD 3 ?_
        refine bA ?_
        exact aF (aJ (⟨rfl, _, (oI h2).symm, .eq (by kernel_rfl), hO, hN⟩))
      refine jD 2 ?_
      obtain rfl := oI h2
      obtain rfl : _ = rr1 := ho1
      replace h1 : fZ aA a1 b2 i6 = some out1 := h1
      exact aF (aY (aY (cD (aX (aJ (⟨rfl, _, .eq (by kernel_rfl), hO, hN, h1⟩))))))
  refine jD 0 ?_
  obtain rfl := oI h1
  obtain rfl : _ = rr0 := ho0
  replace h0 : some aA = some r := h0
  obtain rfl := oI h0
  exact aF (aY (aY (cD (vW (x := (.tup [])) (by kernel_rfl) (aN.refl _) ⟨rfl, hO.ext, hO.at 0 (by kernel_rfl), by first | rfl | (simp only [List.length_map]; exact hN.trans hN0)⟩))))

theorem pS (lo0p : Nat) (aA : (List Int)) (lo1 : Int) (hi2 : Int) (bE : Int) (r : List Int) (h0 : eZ aA lo1 hi2 bE = some r) : mS Try.prog 100 lo0p 1 (List.map (eI) aA) (List.map (eI) r) [(.msl 1 lo0p 0 (List.length aA)), (eI lo1), (eI hi2), (eI bE)] (.tup []) := by
  intro H0 hl0
  refine dL Try.func100 ?_
  have hO := aK.qX hl0
  clear hl0
  obtain ⟨N0, hN0⟩ : ∃ n, n = List.length aA := ⟨_, rfl⟩
  have hN : List.length aA = N0 := hN0.symm
  unfold eZ at h0
  refine aW aD 2 [1] [(8, (eI lo1))] ?_
  refine cC 0 ?_
  refine fQ [(0, (.msl 1 lo0p 0 (List.length aA))), (2, (eI hi2)), (3, (eI bE)), (8, (eI lo1))] ?_
  refine fV (fun T H => ∃ aA : List Int, ∃ bZ : Int, Has T [(0, (.msl 1 lo0p 0 (List.length aA))), (2, (eI hi2)), (3, (eI bE)), (8, (eI bZ))] ∧ aK ⟨H0, [lo0p], []⟩ H [(lo0p, 1, List.map (eI) aA)] ∧ List.length aA = N0 ∧ kF aA hi2 bE bZ = some r) ?_ ⟨aA, lo1, .eq (by kernel_rfl), hO, hN, h0⟩
  clear hO hN h0
  rintro T H ⟨aA, bZ, hT, hO, hN, h0⟩
  refine bK hT ?_
  clear hT
  unfold kF at h0
  obtain ⟨rr0, hl0, h0⟩ := aV h0
  refine dV (by kernel_rfl) (fun (s : List Int × Int) T H => Has T [(0, (.msl 1 lo0p 0 (List.length s.1))), (2, (eI hi2)), (3, (eI bE)), (8, (eI s.2))] ∧ aK ⟨H0, [lo0p], []⟩ H [(lo0p, 1, List.map (eI) s.1)] ∧ List.length s.1 = N0) hl0 ⟨.eq (by kernel_rfl), hO, hN⟩ ?_
  clear hO hN
  rintro k0 s out1 T H ⟨hT, hO, hN⟩ h1 ho0
  obtain ⟨aA, bZ⟩ := s
  replace h1 : cW hi2 bE aA bZ = some out1 := h1
  try dsimp only at hT
  refine bK hT ?_
  clear hT
  unfold cW at h1
  refine cC 1 ?_
  refine aW aD 4 [] [(9, (eI (wR ((wR ((2 : Int) * bZ)) + (1 : Int)))))] ?_
  refine aM ?_
  refine aW aD 3 [] [(16, (aC (decide (hi2 ≤ (wR ((wR ((2 : Int) * bZ)) + (1 : Int)))))))] ?_
  refine bQ h1 (fun h1 => ?_) (fun h1 => ?_)
  · refine jD 0 ?_
    obtain rfl := oI h1
    obtain rfl : _ = rr0 := ho0
    replace h0 : some aA = some r := h0
    obtain rfl := oI h0
    exact aF (aY (rN (by kernel_rfl) (aY (cD (vW (x := (.tup [])) (by kernel_rfl) (aN.refl _) ⟨rfl, hO.ext, hO.at 0 (by kernel_rfl), by first | rfl | (simp only [List.length_map]; exact hN.trans hN0)⟩)))))
  refine bR ?_
  refine bC [(0, (.msl 1 lo0p 0 (List.length aA))), (2, (eI hi2)), (3, (eI bE)), (8, (eI bZ)), (9, (eI (wR ((wR ((2 : Int) * bZ)) + (1 : Int)))))] ?_
  refine iI (fun T H => ∃ aA : List Int, ∃ dY : Int, Has T [(0, (.msl 1 lo0p 0 (List.length aA))), (2, (eI hi2)), (3, (eI bE)), (8, (eI bZ)), (9, (eI dY))] ∧ aK ⟨H0, [lo0p], []⟩ H [(lo0p, 1, List.map (eI) aA)] ∧ List.length aA = N0 ∧ gG aA hi2 bE bZ dY = some out1) ?_ ?_
  · clear hO hN h1
    rintro T H ⟨aA, dY, hT, hO, hN, h1⟩
    refine bK hT ?_
    clear hT
    unfold gG at h1
    refine aM ?_
    refine aM ?_
    refine gI (gH [51]) aD 14 ?_
    obtain ⟨c2, h1⟩ := aZ h1
    refine cH 5 [0 ≤ (wR (bE + bZ)) ∧ (wR (bE + bZ)) < (lN aA)] ⟨c2, trivial⟩ ?_
    refine gW 0 lo0p 1 (0 + Int.toNat (wR (bE + bZ))) (eI (gD aA (wR (bE + bZ)))) (eI (gD aA (wR (bE + bZ)))) (List.map (eI) aA) hO (bW c2) ?_
    obtain ⟨c3, h1⟩ := aZ h1
    refine cH 11 [0 ≤ (wR (bE + dY)) ∧ (wR (bE + dY)) < (lN aA)] ⟨c3, trivial⟩ ?_
    refine gW 0 lo0p 1 (0 + Int.toNat (wR (bE + dY))) (eI (gD aA (wR (bE + dY)))) (eI (gD aA (wR (bE + dY)))) (List.map (eI) aA) hO (bW c3) ?_
    obtain ⟨x4, hx5, h1⟩ := aV h1
    refine yZ (fJ (gD aA (wR (bE + bZ))) (gD aA (wR (bE + dY))) _ hx5) hO ?_
    intro H hO
    refine kM ?_
    refine bU [] [(52, (aC (!x4)))] ?_
    refine bQ h1 (fun h1 => ?_) (fun h1 => ?_)
    · refine bI ?_
      obtain rfl := oI h1
      obtain rfl : _ = rr0 := ho0
      replace h0 : some aA = some r := h0
      obtain rfl := oI h0
      exact aF (aR (bD (aR (bD (kY (x := (.tup [])) (by kernel_rfl) (aN.refl _) ⟨rfl, hO.ext, hO.at 0 (by kernel_rfl), by first | rfl | (simp only [List.length_map]; exact hN.trans hN0)⟩)))))
    refine bR ?_
    refine bC [(0, (.msl 1 lo0p 0 (List.length aA))), (2, (eI hi2)), (3, (eI bE)), (8, (eI bZ)), (9, (eI dY))] ?_
    refine aM ?_
    refine gI (gH []) aD 24 ?_
    obtain ⟨c8, h1⟩ := aZ h1
    refine cH 13 [0 ≤ (wR (bE + dY)) ∧ (wR (bE + dY)) < (lN aA)] ⟨c8, trivial⟩ ?_
    refine gW 0 lo0p 1 (0 + Int.toNat (wR (bE + dY))) (eI (gD aA (wR (bE + dY)))) (eI (gD aA (wR (bE + dY)))) (List.map (eI) aA) hO (bW c8) ?_
    obtain ⟨c9, h1⟩ := aZ h1
    refine cH 19 [0 ≤ (wR (bE + bZ)) ∧ (wR (bE + bZ)) < (lN aA)] ⟨c9, trivial⟩ ?_
    refine gW 0 lo0p 1 (0 + Int.toNat (wR (bE + bZ))) (eI (gD aA (wR (bE + bZ)))) (eI (gD aA (wR (bE + bZ)))) (List.map (eI) aA) hO (bW c9) ?_
    obtain ⟨c10, h1⟩ := aZ h1
    refine cH 21 [0 ≤ (wR (bE + bZ)) ∧ (wR (bE + bZ)) < (lN aA)] ⟨c10, trivial⟩ ?_
    refine kP 0 lo0p 1 (0 + Int.toNat (wR (bE + bZ))) (eI (gD aA (wR (bE + bZ)))) (eI (gD aA (wR (bE + dY)))) (List.map (eI) aA) [(lo0p, 1, List.map (eI) (List.set aA (Int.toNat (wR (bE + bZ))) (gD aA (wR (bE + dY)))))] hO (bW c10) (by simp only [List.set, hU]) ?_
    intro H hO
    replace hN : List.length (List.set aA (Int.toNat (wR (bE + bZ))) (gD aA (wR (bE + dY)))) = N0 := by simpa using hN
    obtain ⟨c11, h1⟩ := aZ h1
    refine cH 23 [0 ≤ (wR (bE + dY)) ∧ (wR (bE + dY)) < (lN aA)] ⟨c11, trivial⟩ ?_
    refine kP 0 lo0p 1 (0 + Int.toNat (wR (bE + dY))) (eI (gD (List.set aA (Int.toNat (wR (bE + bZ))) (gD aA (wR (bE + dY)))) (wR (bE + dY)))) (eI (gD aA (wR (bE + bZ)))) (List.map (eI) (List.set aA (Int.toNat (wR (bE + bZ))) (gD aA (wR (bE + dY))))) [(lo0p, 1, List.map (eI) (List.set (List.set aA (Int.toNat (wR (bE + bZ))) (gD aA (wR (bE + dY)))) (Int.toNat (wR (bE + dY))) (gD aA (wR (bE + bZ)))))] hO (mN c11 (by simp [])) (by simp only [List.set, hU]) ?_
    intro H hO
    replace hN : List.length (List.set (List.set aA (Int.toNat (wR (bE + bZ))) (gD aA (wR (bE + dY)))) (Int.toNat (wR (bE + dY))) (gD aA (wR (bE + bZ)))) = N0 := by simpa using hN
    refine nC (by kernel_rfl) ?_
    refine eD (l := [(0, (.msl 1 lo0p 0 (List.length (List.set (List.set aA (Int.toNat (wR (bE + bZ))) (gD aA (wR (bE + dY)))) (Int.toNat (wR (bE + dY))) (gD aA (wR (bE + bZ))))))), (2, (eI hi2)), (3, (eI bE)), (9, (eI dY))]) ⟨[(0, (.msl 1 lo0p 0 (List.length aA))), (2, (eI hi2)), (3, (eI bE)), (9, (eI dY))], by kernel_rfl, rfl, ⟨aN.eq (by simp []), aN.refl _, aN.refl _, aN.refl _, trivial⟩⟩ ?_
    refine aF (aJ (?_))
    refine aS aD 2 ?_
    refine bA ?_
    exact aF (aX (aJ (⟨rfl, _, (oI h1).symm, .eq (by kernel_rfl), hO, hN⟩)))
  refine aM ?_
  obtain ⟨c12, h1⟩ := aZ h1
  obtain ⟨c13, h1⟩ := aZ h1
  obtain ⟨x14, hx15, h1⟩ := aV h1
  refine gI (gH []) aD 20 ?_
  refine oR (K := fun T H => Has (lift T) [(0, (.msl 1 lo0p 0 (List.length aA))), (2, (eI hi2)), (3, (eI bE)), (8, (eI bZ)), (9, (eI (wR ((wR ((2 : Int) * bZ)) + (1 : Int))))), (36, (aC ((decide ((wR ((wR ((wR ((2 : Int) * bZ)) + (1 : Int))) + (1 : Int))) < hi2)) && x14)))] ∧ aK ⟨H0, [lo0p], []⟩ H [(lo0p, 1, List.map (eI) aA)]) ?_ ?_
  · refine lR 5 ?_
    refine nT (t := 21) (e := decide ((wR ((wR ((wR ((2 : Int) * bZ)) + (1 : Int))) + (1 : Int))) < hi2)) (by kernel_rfl) (fun hg16 => ?_) (fun hg16 => ?_)
    · refine cH 10 [0 ≤ (wR (bE + (wR ((wR ((2 : Int) * bZ)) + (1 : Int))))) ∧ (wR (bE + (wR ((wR ((2 : Int) * bZ)) + (1 : Int))))) < (lN aA)] ⟨(c12 hg16), trivial⟩ ?_
      refine jI 0 lo0p 1 (0 + Int.toNat (wR (bE + (wR ((wR ((2 : Int) * bZ)) + (1 : Int)))))) (eI (gD aA (wR (bE + (wR ((wR ((2 : Int) * bZ)) + (1 : Int))))))) (eI (gD aA (wR (bE + (wR ((wR ((2 : Int) * bZ)) + (1 : Int))))))) (List.map (eI) aA) (by kernel_rfl) (by kernel_rfl) (by kernel_rfl) hO (by kernel_rfl) (bW (c12 hg16)) ?_
      refine cH 17 [0 ≤ (wR ((wR (bE + (wR ((wR ((2 : Int) * bZ)) + (1 : Int))))) + (1 : Int))) ∧ (wR ((wR (bE + (wR ((wR ((2 : Int) * bZ)) + (1 : Int))))) + (1 : Int))) < (lN aA)] ⟨(c13 hg16), trivial⟩ ?_
      refine jI 0 lo0p 1 (0 + Int.toNat (wR ((wR (bE + (wR ((wR ((2 : Int) * bZ)) + (1 : Int))))) + (1 : Int)))) (eI (gD aA (wR ((wR (bE + (wR ((wR ((2 : Int) * bZ)) + (1 : Int))))) + (1 : Int))))) (eI (gD aA (wR ((wR (bE + (wR ((wR ((2 : Int) * bZ)) + (1 : Int))))) + (1 : Int))))) (List.map (eI) aA) (by kernel_rfl) (by kernel_rfl) (by kernel_rfl) hO (by kernel_rfl) (bW (c13 hg16)) ?_
      refine nX 84 [(eI (gD aA (wR (bE + (wR ((wR ((2 : Int) * bZ)) + (1 : Int))))))), (eI (gD aA (wR ((wR (bE + (wR ((wR ((2 : Int) * bZ)) + (1 : Int))))) + (1 : Int)))))] (aC x14) (by kernel_rfl) (by kernel_rfl) (fJ (gD aA (wR (bE + (wR ((wR ((2 : Int) * bZ)) + (1 : Int)))))) (gD aA (wR ((wR (bE + (wR ((wR ((2 : Int) * bZ)) + (1 : Int))))) + (1 : Int)))) _ (jN hx15 hg16)) hO ?_
      intro H hO
      refine kM ?_
      exact ⟨⟨[(0, (.msl 1 lo0p 0 (List.length aA))), (2, (eI hi2)), (3, (eI bE)), (8, (eI bZ)), (9, (eI (wR ((wR ((2 : Int) * bZ)) + (1 : Int))))), (36, (aC x14))], by kernel_rfl, rfl, ⟨aN.refl _, aN.refl _, aN.refl _, aN.refl _, aN.refl _, aN.eq (congrArg aC (nA hg16 rfl).symm), trivial⟩⟩, hO⟩
    refine kM ?_
    exact ⟨⟨[(0, (.msl 1 lo0p 0 (List.length aA))), (2, (eI hi2)), (3, (eI bE)), (8, (eI bZ)), (9, (eI (wR ((wR ((2 : Int) * bZ)) + (1 : Int))))), (36, (aC false))], by kernel_rfl, rfl, ⟨aN.refl _, aN.refl _, aN.refl _, aN.refl _, aN.refl _, aN.eq (congrArg aC (nA hg16 rfl).symm), trivial⟩⟩, hO⟩
  · rintro T H ⟨hT, hO⟩
    refine eD hT ?_
    clear hT
    refine aF (aJ ?_)
    refine bQ h1 (fun h1 => ?_) (fun h1 => ?_)
    · refine aS aD 3 ?_
      refine bA ?_
      exact aF (aJ (⟨rfl, _, _, .eq (by kernel_rfl), hO, hN, h1⟩))
    refine bR ?_
    exact aF (aJ (⟨rfl, _, _, .eq (by kernel_rfl), hO, hN, h1⟩))

theorem wA (lo0p : Nat) (aA : (List Int)) (a1 : Int) (b2 : Int) (r : List Int) (h0 : jC aA a1 b2 = some r) : mS Try.prog 79 lo0p 1 (List.map (eI) aA) (List.map (eI) r) [(.msl 1 lo0p 0 (List.length aA)), (eI a1), (eI b2)] (.tup []) := by
  intro H0 hl0
  refine dL Try.func79 ?_
  have hO := aK.qX hl0
  clear hl0
  obtain ⟨N0, hN0⟩ : ∃ n, n = List.length aA := ⟨_, rfl⟩
  have hN : List.length aA = N0 := hN0.symm
  unfold jC at h0
  refine aW aD 2 [] [(6, (eI a1))] ?_
  refine aW aD 1 [] [(7, (eI (0 : Int)))] ?_
  refine aW aD 4 [1, 2] [(8, (eI (wR (b2 - a1))))] ?_
  refine iI (fun T H => ∃ aA : List Int, ∃ bO : Int, ∃ lo7 : Int, ∃ hi8 : Int, Has T [(0, (.msl 1 lo0p 0 (List.length aA))), (6, (eI bO)), (7, (eI lo7)), (8, (eI hi8))] ∧ aK ⟨H0, [lo0p], []⟩ H [(lo0p, 1, List.map (eI) aA)] ∧ List.length aA = N0 ∧ iV aA bO lo7 hi8 = some r) ?_ ?_
  · clear hO hN h0
    rintro T H ⟨aA, bO, lo7, hi8, hT, hO, hN, h0⟩
    refine bK hT ?_
    clear hT
    unfold iV at h0
    refine aW aD 3 [8] [(10, (eI (wR (hi8 - (1 : Int)))))] ?_
    refine cC 2 ?_
    refine fQ [(0, (.msl 1 lo0p 0 (List.length aA))), (6, (eI bO)), (7, (eI lo7)), (10, (eI (wR (hi8 - (1 : Int)))))] ?_
    refine fV (fun T H => ∃ aA : List Int, ∃ i10 : Int, Has T [(0, (.msl 1 lo0p 0 (List.length aA))), (6, (eI bO)), (7, (eI lo7)), (10, (eI i10))] ∧ aK ⟨H0, [lo0p], []⟩ H [(lo0p, 1, List.map (eI) aA)] ∧ List.length aA = N0 ∧ kH aA bO lo7 i10 = some r) ?_ ⟨aA, wR (hi8 - (1 : Int)), .eq (by kernel_rfl), hO, hN, h0⟩
    clear hO hN h0
    rintro T H ⟨aA, i10, hT, hO, hN, h0⟩
    refine bK hT ?_
    clear hT
    unfold kH at h0
    obtain ⟨rr0, hl0, h0⟩ := aV h0
    refine dV (by kernel_rfl) (fun (s : List Int × Int) T H => Has T [(0, (.msl 1 lo0p 0 (List.length s.1))), (6, (eI bO)), (7, (eI lo7)), (10, (eI s.2))] ∧ aK ⟨H0, [lo0p], []⟩ H [(lo0p, 1, List.map (eI) s.1)] ∧ List.length s.1 = N0) hl0 ⟨.eq (by kernel_rfl), hO, hN⟩ ?_
    clear hO hN
    rintro k0 s out1 T H ⟨hT, hO, hN⟩ h1 ho0
    obtain ⟨aA, i10⟩ := s
    replace h1 : eA bO lo7 aA i10 = some out1 := h1
    try dsimp only at hT
    refine bK hT ?_
    clear hT
    unfold eA at h1
    refine aM ?_
    refine aW aD 2 [] [(30, (aC (decide ((0 : Int) ≤ i10))))] ?_
    refine bQ h1 (fun h1 => ?_) (fun h1 => ?_)
    · refine bR ?_
      refine bC [(0, (.msl 1 lo0p 0 (List.length aA))), (6, (eI bO)), (7, (eI lo7)), (10, (eI i10))] ?_
      refine aM ?_
      refine cC 3 ?_
      refine aM ?_
      refine gI (gH []) aD 20 ?_
      obtain ⟨c2, h1⟩ := aZ h1
      refine cH 11 [0 ≤ (wR (bO + i10)) ∧ (wR (bO + i10)) < (lN aA)] ⟨c2, trivial⟩ ?_
      refine gW 0 lo0p 1 (0 + Int.toNat (wR (bO + i10))) (eI (gD aA (wR (bO + i10)))) (eI (gD aA (wR (bO + i10)))) (List.map (eI) aA) hO (bW c2) ?_
      obtain ⟨c3, h1⟩ := aZ h1
      refine cH 15 [0 ≤ bO ∧ bO < (lN aA)] ⟨c3, trivial⟩ ?_
      refine gW 0 lo0p 1 (0 + Int.toNat bO) (eI (gD aA bO)) (eI (gD aA bO)) (List.map (eI) aA) hO (bW c3) ?_
      obtain ⟨c4, h1⟩ := aZ h1
      refine cH 17 [0 ≤ bO ∧ bO < (lN aA)] ⟨c4, trivial⟩ ?_
      refine kP 0 lo0p 1 (0 + Int.toNat bO) (eI (gD aA bO)) (eI (gD aA (wR (bO + i10)))) (List.map (eI) aA) [(lo0p, 1, List.map (eI) (List.set aA (Int.toNat bO) (gD aA (wR (bO + i10)))))] hO (bW c4) (by simp only [List.set, hU]) ?_
      intro H hO
      replace hN : List.length (List.set aA (Int.toNat bO) (gD aA (wR (bO + i10)))) = N0 := by simpa using hN
      obtain ⟨c5, h1⟩ := aZ h1
      refine cH 19 [0 ≤ (wR (bO + i10)) ∧ (wR (bO + i10)) < (lN aA)] ⟨c5, trivial⟩ ?_
      refine kP 0 lo0p 1 (0 + Int.toNat (wR (bO + i10))) (eI (gD (List.set aA (Int.toNat bO) (gD aA (wR (bO + i10)))) (wR (bO + i10)))) (eI (gD aA bO)) (List.map (eI) (List.set aA (Int.toNat bO) (gD aA (wR (bO + i10))))) [(lo0p, 1, List.map (eI) (List.set (List.set aA (Int.toNat bO) (gD aA (wR (bO + i10)))) (Int.toNat (wR (bO + i10))) (gD aA bO)))] hO (mN c5 (by simp [])) (by simp only [List.set, hU]) ?_
      intro H hO
      replace hN : List.length (List.set (List.set aA (Int.toNat bO) (gD aA (wR (bO + i10)))) (Int.toNat (wR (bO + i10))) (gD aA bO)) = N0 := by simpa using hN
      refine nC (by kernel_rfl) ?_
      refine eD (l := [(0, (.msl 1 lo0p 0 (List.length (List.set (List.set aA (Int.toNat bO) (gD aA (wR (bO + i10)))) (Int.toNat (wR (bO + i10))) (gD aA bO))))), (6, (eI bO)), (7, (eI lo7)), (10, (eI i10))]) ⟨[(0, (.msl 1 lo0p 0 (List.length aA))), (6, (eI bO)), (7, (eI lo7)), (10, (eI i10))], by kernel_rfl, rfl, ⟨aN.eq (by simp []), aN.refl _, aN.refl _, aN.refl _, trivial⟩⟩ ?_
      refine aF (aJ (?_))
      refine aS aD 5 ?_
      refine bN 4 ?_
      obtain ⟨x6, hx7, h1⟩ := aV h1
      refine wL [(lo0p, 1, List.map (eI) x6)] 0 (pS lo0p (List.set (List.set aA (Int.toNat bO) (gD aA (wR (bO + i10)))) (Int.toNat (wR (bO + i10))) (gD aA bO)) lo7 i10 bO _ hx7) hO ?_
      intro H hO hl8
      simp only [List.length_map] at hl8
      replace hN := hl8.trans hN
      refine dK ?_
      refine eD (l := [(0, (.msl 1 lo0p 0 (List.length x6))), (6, (eI bO)), (7, (eI lo7)), (10, (eI i10))]) ⟨[(0, (.msl 1 lo0p 0 (List.length (List.set (List.set aA (Int.toNat bO) (gD aA (wR (bO + i10)))) (Int.toNat (wR (bO + i10))) (gD aA bO))))), (6, (eI bO)), (7, (eI lo7)), (10, (eI i10))], by kernel_rfl, rfl, ⟨aN.eq (by simp [hl8]), aN.refl _, aN.refl _, aN.refl _, trivial⟩⟩ ?_
      refine aF (aX (aJ (?_)))
      refine aS aD 3 ?_
      refine bA ?_
      exact aF (aJ (⟨rfl, _, (oI h1).symm, .eq (by kernel_rfl), hO, hN⟩))
    refine jD 2 ?_
    obtain rfl := oI h1
    obtain rfl : _ = rr0 := ho0
    replace h0 : some aA = some r := h0
    obtain rfl := oI h0
    exact aF (aY (aY (cD (vW (x := (.tup [])) (by kernel_rfl) (aN.refl _) ⟨rfl, hO.ext, hO.at 0 (by kernel_rfl), by first | rfl | (simp only [List.length_map]; exact hN.trans hN0)⟩))))
  refine aM ?_
  refine aS aD 4 ?_
  obtain ⟨c9, h0⟩ := aZ h0
  refine rR [(2 : Int) ≠ 0] ⟨c9, trivial⟩ ?_
  refine bU [] [(9, (eI (wR (Int.tdiv (wR ((wR (b2 - a1)) - (1 : Int))) (2 : Int)))))] ?_
  refine cC 0 ?_
  refine fQ [(0, (.msl 1 lo0p 0 (List.length aA))), (6, (eI a1)), (7, (eI (0 : Int))), (8, (eI (wR (b2 - a1)))), (9, (eI (wR (Int.tdiv (wR ((wR (b2 - a1)) - (1 : Int))) (2 : Int)))))] ?_
  refine fV (fun T H => ∃ aA : List Int, ∃ bO : Int, ∃ lo7 : Int, ∃ hi8 : Int, ∃ i9 : Int, Has T [(0, (.msl 1 lo0p 0 (List.length aA))), (6, (eI bO)), (7, (eI lo7)), (8, (eI hi8)), (9, (eI i9))] ∧ aK ⟨H0, [lo0p], []⟩ H [(lo0p, 1, List.map (eI) aA)] ∧ List.length aA = N0 ∧ kG aA bO lo7 hi8 i9 = some r) ?_ ⟨aA, a1, (0 : Int), wR (b2 - a1), wR (Int.tdiv (wR ((wR (b2 - a1)) - (1 : Int))) (2 : Int)), .eq (by kernel_rfl), hO, hN, h0⟩
  clear hO hN h0
  rintro T H ⟨aA, bO, lo7, hi8, i9, hT, hO, hN, h0⟩
  refine bK hT ?_
  clear hT
  unfold kG at h0
  obtain ⟨rr0, hl0, h0⟩ := aV h0
  refine dV (by kernel_rfl) (fun (s : List Int × Int) T H => Has T [(0, (.msl 1 lo0p 0 (List.length s.1))), (6, (eI bO)), (7, (eI lo7)), (8, (eI hi8)), (9, (eI s.2))] ∧ aK ⟨H0, [lo0p], []⟩ H [(lo0p, 1, List.map (eI) s.1)] ∧ List.length s.1 = N0) hl0 ⟨.eq (by kernel_rfl), hO, hN⟩ ?_
  clear hO hN
  rintro k0 s out1 T H ⟨hT, hO, hN⟩ h1 ho0
  obtain ⟨aA, i9⟩ := s
  replace h1 : dZ bO lo7 hi8 aA i9 = some out1 := h1
  try dsimp only at hT
  refine bK hT ?_
  clear hT
  unfold dZ at h1
  refine aM ?_
  refine aW aD 2 [] [(19, (aC (decide ((0 : Int) ≤ i9))))] ?_
  refine bQ h1 (fun h1 => ?_) (fun h1 => ?_)
  · refine bR ?_
    refine bC [(0, (.msl 1 lo0p 0 (List.length aA))), (6, (eI bO)), (7, (eI lo7)), (8, (eI hi8)), (9, (eI i9))] ?_
    refine aM ?_
    refine cC 1 ?_
    refine aS aD 5 ?_
    refine bN 4 ?_
    obtain ⟨x11, hx12, h1⟩ := aV h1
    refine wL [(lo0p, 1, List.map (eI) x11)] 0 (pS lo0p aA i9 hi8 bO _ hx12) hO ?_
    intro H hO hl13
    simp only [List.length_map] at hl13
    replace hN := hl13.trans hN
    refine dK ?_
    refine eD (l := [(0, (.msl 1 lo0p 0 (List.length x11))), (6, (eI bO)), (7, (eI lo7)), (8, (eI hi8)), (9, (eI i9))]) ⟨[(0, (.msl 1 lo0p 0 (List.length aA))), (6, (eI bO)), (7, (eI lo7)), (8, (eI hi8)), (9, (eI i9))], by kernel_rfl, rfl, ⟨aN.eq (by simp [hl13]), aN.refl _, aN.refl _, aN.refl _, aN.refl _, trivial⟩⟩ ?_
    refine aF (aX (aJ (?_)))
    refine aS aD 3 ?_
    refine bA ?_
    exact aF (aJ (⟨rfl, _, (oI h1).symm, .eq (by kernel_rfl), hO, hN⟩))
  refine jD 0 ?_
  obtain rfl := oI h1
  obtain rfl : _ = rr0 := ho0
  replace h0 : iV aA bO lo7 hi8 = some r := h0
  exact aF (aY (aY (cD (aJ (⟨rfl, _, _, _, _, .eq (by kernel_rfl), hO, hN, h0⟩)))))

theorem zN (AR : Int) (r : Int) (h0 : kT AR = some r) : dH Try.prog 101 [(eI AR)] (cR .u64 r) := by
  intro H0
  refine dL Try.func101 ?_
  have hO := aK.start H0
  unfold kT at h0
  refine aW aD 1 [] [] ?_
  refine aM ?_
  refine aS aD 5 ?_
  refine bN 2 ?_
  obtain ⟨x1, hx2, h0⟩ := aV h0
  refine dX (zY (IntKind.u64.wrap AR) _ hx2) hO ?_
  intro H hO
  obtain ⟨c4, h0⟩ := aZ h0
  refine rR [0 ≤ x1] ⟨c4, trivial⟩ ?_
  refine bC [(2, (cR .u64 (IntKind.u64.wrap ((1 : Int) * 2 ^ (min (Int.toNat x1) 64)))))] ?_
  refine bI ?_
  obtain rfl := oI h0
  exact aF (Q_r hO)

theorem AD (lo0p : Nat) (r0 : Int) (r : (Int × Int)) (h0 : lC r0 = some r) : yC Try.prog 102 [(.lp lo0p 0 0)] [(lo0p, 1, [(cR .u64 r0)])] (fun x L => x = (cR .u64 r.1) ∧ L = [(lo0p, 1, [(cR .u64 r.2)])]) := by
  intro F H0 hO
  obtain ⟨Fh, Fe, Fg⟩ := F
  refine dL Try.func102 ?_
  unfold lC at h0
  refine aW aD 1 [] [] ?_
  refine aM ?_
  refine gI (gH []) aD 10 ?_
  refine lR 2 ?_
  refine gW 0 lo0p 1 0 (cR .u64 r0) (cR .u64 r0) [(cR .u64 r0)] hO rfl ?_
  refine lR 5 ?_
  refine gW 0 lo0p 1 0 (cR .u64 r0) (cR .u64 r0) [(cR .u64 r0)] hO rfl ?_
  obtain ⟨c1, h0⟩ := aZ h0
  refine cH 9 [0 ≤ (13 : Int)] ⟨c1, trivial⟩ ?_
  refine kP 0 lo0p 1 0 (cR .u64 r0) (cR .u64 (bM .xor .u64 r0 (IntKind.u64.wrap (r0 * 2 ^ (min (Int.toNat (13 : Int)) 64))))) [(cR .u64 r0)] [(lo0p, 1, [(cR .u64 (bM .xor .u64 r0 (IntKind.u64.wrap (r0 * 2 ^ (min (Int.toNat (13 : Int)) 64)))))])] hO rfl (by kernel_rfl) ?_
  intro H hO
  refine nC (by kernel_rfl) ?_
  refine bU [] [] ?_
  refine aM ?_
  refine gI (gH []) aD 10 ?_
  refine lR 2 ?_
  refine gW 0 lo0p 1 0 (cR .u64 (bM .xor .u64 r0 (IntKind.u64.wrap (r0 * 2 ^ (min (Int.toNat (13 : Int)) 64))))) (cR .u64 (bM .xor .u64 r0 (IntKind.u64.wrap (r0 * 2 ^ (min (Int.toNat (13 : Int)) 64))))) [(cR .u64 (bM .xor .u64 r0 (IntKind.u64.wrap (r0 * 2 ^ (min (Int.toNat (13 : Int)) 64)))))] hO rfl ?_
  refine lR 5 ?_
  refine gW 0 lo0p 1 0 (cR .u64 (bM .xor .u64 r0 (IntKind.u64.wrap (r0 * 2 ^ (min (Int.toNat (13 : Int)) 64))))) (cR .u64 (bM .xor .u64 r0 (IntKind.u64.wrap (r0 * 2 ^ (min (Int.toNat (13 : Int)) 64))))) [(cR .u64 (bM .xor .u64 r0 (IntKind.u64.wrap (r0 * 2 ^ (min (Int.toNat (13 : Int)) 64)))))] hO rfl ?_
  obtain ⟨c2, h0⟩ := aZ h0
  refine cH 9 [0 ≤ (7 : Int)] ⟨c2, trivial⟩ ?_
  refine kP 0 lo0p 1 0 (cR .u64 (bM .xor .u64 r0 (IntKind.u64.wrap (r0 * 2 ^ (min (Int.toNat (13 : Int)) 64))))) (cR .u64 (bM .xor .u64 (bM .xor .u64 r0 (IntKind.u64.wrap (r0 * 2 ^ (min (Int.toNat (13 : Int)) 64)))) (Int.fdiv (bM .xor .u64 r0 (IntKind.u64.wrap (r0 * 2 ^ (min (Int.toNat (13 : Int)) 64)))) (2 ^ (min (Int.toNat (7 : Int)) 64))))) [(cR .u64 (bM .xor .u64 r0 (IntKind.u64.wrap (r0 * 2 ^ (min (Int.toNat (13 : Int)) 64)))))] [(lo0p, 1, [(cR .u64 (bM .xor .u64 (bM .xor .u64 r0 (IntKind.u64.wrap (r0 * 2 ^ (min (Int.toNat (13 : Int)) 64)))) (Int.fdiv (bM .xor .u64 r0 (IntKind.u64.wrap (r0 * 2 ^ (min (Int.toNat (13 : Int)) 64)))) (2 ^ (min (Int.toNat (7 : Int)) 64)))))])] hO rfl (by kernel_rfl) ?_
  intro H hO
  refine nC (by kernel_rfl) ?_
  refine bU [] [] ?_
  refine aM ?_
  refine gI (gH []) aD 10 ?_
  refine lR 2 ?_
  refine gW 0 lo0p 1 0 (cR .u64 (bM .xor .u64 (bM .xor .u64 r0 (IntKind.u64.wrap (r0 * 2 ^ (min (Int.toNat (13 : Int)) 64)))) (Int.fdiv (bM .xor .u64 r0 (IntKind.u64.wrap (r0 * 2 ^ (min (Int.toNat (13 : Int)) 64)))) (2 ^ (min (Int.toNat (7 : Int)) 64))))) (cR .u64 (bM .xor .u64 (bM .xor .u64 r0 (IntKind.u64.wrap (r0 * 2 ^ (min (Int.toNat (13 : Int)) 64)))) (Int.fdiv (bM .xor .u64 r0 (IntKind.u64.wrap (r0 * 2 ^ (min (Int.toNat (13 : Int)) 64)))) (2 ^ (min (Int.toNat (7 : Int)) 64))))) [(cR .u64 (bM .xor .u64 (bM .xor .u64 r0 (IntKind.u64.wrap (r0 * 2 ^ (min (Int.toNat (13 : Int)) 64)))) (Int.fdiv (bM .xor .u64 r0 (IntKind.u64.wrap (r0 * 2 ^ (min (Int.toNat (13 : Int)) 64)))) (2 ^ (min (Int.toNat (7 : Int)) 64)))))] hO rfl ?_
  refine lR 5 ?_
  refine gW 0 lo0p 1 0 (cR .u64 (bM .xor .u64 (bM .xor .u64 r0 (IntKind.u64.wrap (r0 * 2 ^ (min (Int.toNat (13 : Int)) 64)))) (Int.fdiv (bM .xor .u64 r0 (IntKind.u64.wrap (r0 * 2 ^ (min (Int.toNat (13 : Int)) 64)))) (2 ^ (min (Int.toNat (7 : Int)) 64))))) (cR .u64 (bM .xor .u64 (bM .xor .u64 r0 (IntKind.u64.wrap (r0 * 2 ^ (min (Int.toNat (13 : Int)) 64)))) (Int.fdiv (bM .xor .u64 r0 (IntKind.u64.wrap (r0 * 2 ^ (min (Int.toNat (13 : Int)) 64)))) (2 ^ (min (Int.toNat (7 : Int)) 64))))) [(cR .u64 (bM .xor .u64 (bM .xor .u64 r0 (IntKind.u64.wrap (r0 * 2 ^ (min (Int.toNat (13 : Int)) 64)))) (Int.fdiv (bM .xor .u64 r0 (IntKind.u64.wrap (r0 * 2 ^ (min (Int.toNat (13 : Int)) 64)))) (2 ^ (min (Int.toNat (7 : Int)) 64)))))] hO rfl ?_
  obtain ⟨c3, h0⟩ := aZ h0
  refine cH 9 [0 ≤ (17 : Int)] ⟨c3, trivial⟩ ?_
  refine kP 0 lo0p 1 0 (cR .u64 (bM .xor .u64 (bM .xor .u64 r0 (IntKind.u64.wrap (r0 * 2 ^ (min (Int.toNat (13 : Int)) 64)))) (Int.fdiv (bM .xor .u64 r0 (IntKind.u64.wrap (r0 * 2 ^ (min (Int.toNat (13 : Int)) 64)))) (2 ^ (min (Int.toNat (7 : Int)) 64))))) (cR .u64 (bM .xor .u64 (bM .xor .u64 (bM .xor .u64 r0 (IntKind.u64.wrap (r0 * 2 ^ (min (Int.toNat (13 : Int)) 64)))) (Int.fdiv (bM .xor .u64 r0 (IntKind.u64.wrap (r0 * 2 ^ (min (Int.toNat (13 : Int)) 64)))) (2 ^ (min (Int.toNat (7 : Int)) 64)))) (IntKind.u64.wrap ((bM .xor .u64 (bM .xor .u64 r0 (IntKind.u64.wrap (r0 * 2 ^ (min (Int.toNat (13 : Int)) 64)))) (Int.fdiv (bM .xor .u64 r0 (IntKind.u64.wrap (r0 * 2 ^ (min (Int.toNat (13 : Int)) 64)))) (2 ^ (min (Int.toNat (7 : Int)) 64)))) * 2 ^ (min (Int.toNat (17 : Int)) 64))))) [(cR .u64 (bM .xor .u64 (bM .xor .u64 r0 (IntKind.u64.wrap (r0 * 2 ^ (min (Int.toNat (13 : Int)) 64)))) (Int.fdiv (bM .xor .u64 r0 (IntKind.u64.wrap (r0 * 2 ^ (min (Int.toNat (13 : Int)) 64)))) (2 ^ (min (Int.toNat (7 : Int)) 64)))))] [(lo0p, 1, [(cR .u64 (bM .xor .u64 (bM .xor .u64 (bM .xor .u64 r0 (IntKind.u64.wrap (r0 * 2 ^ (min (Int.toNat (13 : Int)) 64)))) (Int.fdiv (bM .xor .u64 r0 (IntKind.u64.wrap (r0 * 2 ^ (min (Int.toNat (13 : Int)) 64)))) (2 ^ (min (Int.toNat (7 : Int)) 64)))) (IntKind.u64.wrap ((bM .xor .u64 (bM .xor .u64 r0 (IntKind.u64.wrap (r0 * 2 ^ (min (Int.toNat (13 : Int)) 64)))) (Int.fdiv (bM .xor .u64 r0 (IntKind.u64.wrap (r0 * 2 ^ (min (Int.toNat (13 : Int)) 64)))) (2 ^ (min (Int.toNat (7 : Int)) 64)))) * 2 ^ (min (Int.toNat (17 : Int)) 64)))))])] hO rfl (by kernel_rfl) ?_
  intro H hO
  refine nC (by kernel_rfl) ?_
  refine bU [] [] ?_
  refine aM ?_
  refine aS aD 4 ?_
  refine bN 2 ?_
  refine mO 0 lo0p 1 0 (cR .u64 (bM .xor .u64 (bM .xor .u64 (bM .xor .u64 r0 (IntKind.u64.wrap (r0 * 2 ^ (min (Int.toNat (13 : Int)) 64)))) (Int.fdiv (bM .xor .u64 r0 (IntKind.u64.wrap (r0 * 2 ^ (min (Int.toNat (13 : Int)) 64)))) (2 ^ (min (Int.toNat (7 : Int)) 64)))) (IntKind.u64.wrap ((bM .xor .u64 (bM .xor .u64 r0 (IntKind.u64.wrap (r0 * 2 ^ (min (Int.toNat (13 : Int)) 64)))) (Int.fdiv (bM .xor .u64 r0 (IntKind.u64.wrap (r0 * 2 ^ (min (Int.toNat (13 : Int)) 64)))) (2 ^ (min (Int.toNat (7 : Int)) 64)))) * 2 ^ (min (Int.toNat (17 : Int)) 64))))) (cR .u64 (bM .xor .u64 (bM .xor .u64 (bM .xor .u64 r0 (IntKind.u64.wrap (r0 * 2 ^ (min (Int.toNat (13 : Int)) 64)))) (Int.fdiv (bM .xor .u64 r0 (IntKind.u64.wrap (r0 * 2 ^ (min (Int.toNat (13 : Int)) 64)))) (2 ^ (min (Int.toNat (7 : Int)) 64)))) (IntKind.u64.wrap ((bM .xor .u64 (bM .xor .u64 r0 (IntKind.u64.wrap (r0 * 2 ^ (min (Int.toNat (13 : Int)) 64)))) (Int.fdiv (bM .xor .u64 r0 (IntKind.u64.wrap (r0 * 2 ^ (min (Int.toNat (13 : Int)) 64)))) (2 ^ (min (Int.toNat (7 : Int)) 64)))) * 2 ^ (min (Int.toNat (17 : Int)) 64))))) [(cR .u64 (bM .xor .u64 (bM .xor .u64 (bM .xor .u64 r0 (IntKind.u64.wrap (r0 * 2 ^ (min (Int.toNat (13 : Int)) 64)))) (Int.fdiv (bM .xor .u64 r0 (IntKind.u64.wrap (r0 * 2 ^ (min (Int.toNat (13 : Int)) 64)))) (2 ^ (min (Int.toNat (7 : Int)) 64)))) (IntKind.u64.wrap ((bM .xor .u64 (bM .xor .u64 r0 (IntKind.u64.wrap (r0 * 2 ^ (min (Int.toNat (13 : Int)) 64)))) (Int.fdiv (bM .xor .u64 r0 (IntKind.u64.wrap (r0 * 2 ^ (min (Int.toNat (13 : Int)) 64)))) (2 ^ (min (Int.toNat (7 : Int)) 64)))) * 2 ^ (min (Int.toNat (17 : Int)) 64)))))] hO rfl ?_
  refine bA ?_
  refine bC [(0, (.lp lo0p 0 0)), (2, (cR .u64 (bM .xor .u64 (bM .xor .u64 (bM .xor .u64 r0 (IntKind.u64.wrap (r0 * 2 ^ (min (Int.toNat (13 : Int)) 64)))) (Int.fdiv (bM .xor .u64 r0 (IntKind.u64.wrap (r0 * 2 ^ (min (Int.toNat (13 : Int)) 64)))) (2 ^ (min (Int.toNat (7 : Int)) 64)))) (IntKind.u64.wrap ((bM .xor .u64 (bM .xor .u64 r0 (IntKind.u64.wrap (r0 * 2 ^ (min (Int.toNat (13 : Int)) 64)))) (Int.fdiv (bM .xor .u64 r0 (IntKind.u64.wrap (r0 * 2 ^ (min (Int.toNat (13 : Int)) 64)))) (2 ^ (min (Int.toNat (7 : Int)) 64)))) * 2 ^ (min (Int.toNat (17 : Int)) 64))))))] ?_
  refine bI ?_
  obtain rfl := oI h0
  exact aF (EH hO ⟨rfl, rfl⟩)

end Go.Abs
