/- Walking code on abstract states: what is claimed, and the rules on the code's forms. -/
import Derived.Test.YtgeajlnkbfeidaaAbs7
import Derived.RangeFuncLeaves
import Derived.RangeFuncCalls
namespace Go.Abs
open Go Go.RowKit

variable {P : Program} {tt : TT}

/-- The fence of a frame: everything may happen; the frame may be a round's. -/
def FR (ro : Option Nat) : Fence := { Fence.wide with round := ro }

theorem FR_none : FR none = Fence.wide := rfl

/-- The mark of a range over a function. -/
def mkD (g : Gh) (l : Nat) : Deferred := { target := .collected (g.blk l), args := #[] }

structure Good (N : Nat) (g : Gh) (w : World) (T : Env) (H : Heap) (ds : List Nat) (a : Act) : Prop where
  sr : SR g w H
  tr : TR g w T a.tmps
  df : a.defers = ds.map (mkD g)
  dl : ∀ l ∈ ds, l < g.n
  sz : a.tmps.size = N

/-- A call, on abstract values: it returns. -/
def ACall (P : Program) (f : FuncId) (args : List V) (H : Heap) (Q : V → Heap → Prop) : Prop :=
  (∀ as w, (callFunc f as).run P w = .ok (.enter f as) w) ∧
  ∀ g w (vs : Array Value), SR g w H → args.length = vs.size → (∀ (i : Nat) x y, args[i]? = some x → vs[i]? = some y → Rep g w x y) →
    Calls P f vs w fun e w' => ∃ v r g' H', e = .returned v ∧ Rep g' w' r v ∧ SR g' w' H' ∧ Ext g w g' w' ∧ Q r H'

theorem ACall.mono {f : FuncId} {args : List V} {H : Heap} {Q Q' : V → Heap → Prop} (h : ACall P f args H Q) (hq : ∀ r H', Q r H' → Q' r H') : ACall P f args H Q' :=
  ⟨h.1, fun g w vs h1 h2 h3 => (h.2 g w vs h1 h2 h3).mono fun _ _ ⟨v, r, g', H', a, b, c, d, e⟩ => ⟨v, r, g', H', a, b, c, d, hq _ _ e⟩⟩

/-- Code, on abstract states. -/
def AWP (P : Program) (ro : Option Nat) (N : Nat) (c : Code) (T : Env) (H : Heap) (ds : List Nat) (Q : Exit → Env → Heap → List Nat → Prop) : Prop :=
  ∀ g w a (R : Exit → Act → World → Prop), Good N g w T H ds a →
    (∀ e T' H' ds' g' w' a', Q e T' H' ds' → Good N g' w' T' H' ds' a' → Ext g w g' w' → R e a' w') → c.wpIn (FR ro) 0 P R a w

variable {ro : Option Nat} {N : Nat} {T : Env} {H : Heap} {ds : List Nat} {Q : Exit → Env → Heap → List Nat → Prop}

theorem AWP.mono {c : Code} {Q' : Exit → Env → Heap → List Nat → Prop} (h : AWP P ro N c T H ds Q) (hq : ∀ e T H ds, Q e T H ds → Q' e T H ds) : AWP P ro N c T H ds Q' :=
  fun g w a R hg hr => h g w a R hg fun e T' H' ds' g' w' a' q => hr e T' H' ds' g' w' a' (hq _ _ _ _ q)

theorem A_skip (h : Q .normal T H ds) : AWP P ro N .skip T H ds Q :=
  fun g w _ _ hg hr => wpIn_skip (hr _ _ _ _ _ _ _ h hg (Ext.refl g w))

theorem A_exit {id : Nat} (h : Q (.exit id) T H ds) : AWP P ro N (.exit id) T H ds Q :=
  fun g w _ _ hg hr => wpIn_exit (hr _ _ _ _ _ _ _ h hg (Ext.refl g w))

theorem A_ret (h : Q .ret T H ds) : AWP P ro N .ret T H ds Q :=
  fun g w _ _ hg hr => wpIn_ret (hr _ _ _ _ _ _ _ h hg (Ext.refl g w))

/-- What follows a piece of code. -/
def thenA (next : Env → Heap → List Nat → Prop) (Q : Exit → Env → Heap → List Nat → Prop) : Exit → Env → Heap → List Nat → Prop
  | .normal, T, H, ds => next T H ds
  | e, T, H, ds => Q e T H ds

theorem A_seq {x y : Code} (h : AWP P ro N x T H ds (thenA (fun T H ds => AWP P ro N y T H ds Q) Q)) : AWP P ro N (.seq x y) T H ds Q := by
  intro g w a R hg hr
  refine wpIn_seq (h g w a _ hg ?_)
  intro e T' H' ds' g' w' a' q hg' hx
  cases e with
  | normal => exact q g' w' a' R hg' fun e T2 H2 ds2 g2 w2 a2 q2 hg2 hx2 => hr e T2 H2 ds2 g2 w2 a2 q2 hg2 (hx.trans hx2)
  | _ => exact hr _ _ _ _ _ _ _ q hg' hx

/-- What a block does with its own exit. -/
def blockA (id : Nat) (Q : Exit → Env → Heap → List Nat → Prop) : Exit → Env → Heap → List Nat → Prop
  | .exit id', T, H, ds => match Nat.beq id' id with
    | true => Q .normal T H ds
    | false => Q (.exit id') T H ds
  | e, T, H, ds => Q e T H ds

theorem A_block {id : Nat} {c : Code} (h : AWP P ro N c T H ds (blockA id Q)) : AWP P ro N (.block id c) T H ds Q := by
  intro g w a R hg hr
  refine wpIn_block (h g w a _ hg ?_)
  intro e T' H' ds' g' w' a' q hg' hx
  cases e with
  | exit id' =>
    simp only [Exit.inBlock]
    simp only [blockA] at q
    split at q
    · rename_i hb
      rw [if_pos (Nat.eq_of_beq_eq_true hb)]
      exact hr _ _ _ _ _ _ _ q hg' hx
    · rename_i hb
      rw [if_neg (fun e => by subst e; simp at hb)]
      exact hr _ _ _ _ _ _ _ q hg' hx
  | _ => exact hr _ _ _ _ _ _ _ q hg' hx

theorem A_scope {c : Code} (h : AWP P ro N c T H ds Q) (hsc : ∀ R a w, c.wpIn (FR ro) 0 P R a w → (Code.scope c).wpIn (FR ro) 0 P R a w) : AWP P ro N (.scope c) T H ds Q :=
  fun g w a R hg hr => hsc _ _ _ (h g w a R hg hr)

/-- A test: on a Bool that stands open. -/
theorem A_cond {c : Operand} {x y : Code} {b : Bool} (hc : evalO T [] c = some (.lit (.bool b))) (h1 : b = true → AWP P ro N x T H ds Q) (h2 : b = false → AWP P ro N y T H ds Q) :
    AWP P ro N (.cond c x y) T H ds Q := by
  intro g w a R hg hr
  have hb : a.eval c = .bool b := (evalO_rep hg.tr (fun p hp => by simp at hp) hc).litE
  cases b with
  | true => exact wpIn_cond hb (h1 rfl g w a R hg hr)
  | false => exact wpIn_cond hb (h2 rfl g w a R hg hr)

/-- Less is known. -/
def SubE (T' T : Env) : Prop := ∀ t x, T' t = some x → T t = some x

theorem A_weak {c : Code} {T' : Env} (hs : SubE T' T) (h : AWP P ro N c T' H ds Q) : AWP P ro N c T H ds Q :=
  fun g w a R hg hr => h g w a R ⟨hg.sr, fun t c x ht => hg.tr t c x (hs t _ ht), hg.df, hg.dl, hg.sz⟩ hr

theorem least_of {p : Nat → Prop} (h : ∃ n, p n) : ∃ n, p n ∧ ∀ m, p m → n ≤ m := by
  obtain ⟨n, hn⟩ := h
  induction n using Nat.strongRecOn with
  | _ n ih =>
    by_cases hx : ∃ m, m < n ∧ p m
    · obtain ⟨m, hm, hp⟩ := hx; exact ih m hm hp
    · exact ⟨n, hn, fun m hm => Nat.le_of_not_lt fun hlt => hx ⟨m, hlt, hm⟩⟩

/-- A loop: a claim on the state at its head, with a measure. -/
theorem A_loop {c : Code} (I : Nat → Env → Heap → List Nat → Prop) {k : Nat} (h0 : I k T H ds)
    (round : ∀ k T H ds, I k T H ds → AWP P ro N c T H ds (thenA (fun T' H' ds' => ∃ k', k' < k ∧ I k' T' H' ds') Q)) : AWP P ro N (.loop c) T H ds Q := by
  intro g w a R hg hr
  let J : Act → World → Nat → Prop := fun a' w' j => ∃ T' H' ds' g', I j T' H' ds' ∧ Good N g' w' T' H' ds' a' ∧ Ext g w g' w'
  refine wpIn_loop (fun a' w' => ∃ j, J a' w' j) (fun a' w' => open Classical in if h : ∃ j, J a' w' j then Classical.choose (least_of h) else 0) ⟨k, T, H, ds, g, h0, hg, Ext.refl g w⟩ ?_
  intro a' w' hJ
  have hsp := Classical.choose_spec (least_of hJ)
  simp only [dif_pos hJ]
  generalize Classical.choose (least_of hJ) = j at hsp ⊢
  obtain ⟨⟨T', H', ds', g', hI, hg', hx⟩, hmin⟩ := hsp
  refine round j T' H' ds' hI g' w' a' _ hg' ?_
  intro e T2 H2 ds2 g2 w2 a2 q hg2 hx2
  cases e with
  | normal =>
    obtain ⟨k', hk', hI'⟩ := q
    have hJ2 : ∃ j, J a2 w2 j := ⟨k', T2, H2, ds2, g2, hI', hg2, hx.trans hx2⟩
    refine ⟨hJ2, ?_⟩
    rw [dif_pos hJ2]
    have := (Classical.choose_spec (least_of hJ2)).2 k' ⟨T2, H2, ds2, g2, hI', hg2, hx.trans hx2⟩
    omega
  | _ => exact hr _ _ _ _ _ _ _ q hg2 (hx.trans hx2)

/-! ### Regions -/

/-- The condition under which an operation is carried out. -/
def wfCtx (T : Env) : Ctx → Bool
  | [] => true
  | p :: r => (match T p.1 with
    | some (c, .lit (.bool _)) => subCtx c r
    | _ => false) && wfCtx T r

def gB1 (T : Env) (p : Nat × Bool) : Bool :=
  match T p.1 with
  | some (_, .lit (.bool b)) => match p.2 with
    | true => b
    | false => !b
  | _ => false

def gB (T : Env) : Ctx → Bool
  | [] => true
  | [p] => gB1 T p
  | p :: r => gB1 T p && gB T r

theorem gB_cons (T : Env) (p : Nat × Bool) (r : Ctx) : gB T (p :: r) = (gB1 T p && gB T r) := by
  cases r <;> simp [gB]

theorem ctx_iff {g : Gh} {w : World} {tmps : Array Value} (h : TR g w T tmps) : ∀ {c : Ctx}, wfCtx T c = true → (ctxOk tmps c ↔ gB T c = true)
  | [], _ => by simp [ctxOk, gB]
  | p :: r, hw => by
    simp only [wfCtx, Bool.and_eq_true] at hw
    obtain ⟨h1, h2⟩ := hw
    have ih := ctx_iff h h2
    rw [gB_cons]
    have hc : ctxOk tmps (p :: r) ↔ tmps[p.1]? = some (.bool p.2) ∧ ctxOk tmps r := by simp [ctxOk]
    rw [hc, Bool.and_eq_true, ← ih]
    split at h1
    · rename_i c b ht
      have key : ctxOk tmps r → (tmps[p.1]? = some (.bool p.2) ↔ gB1 T p = true) := by
        intro hr
        obtain ⟨v, hv, hrep⟩ := (h _ _ _ ht).1 (ctxOk_sub h1 hr)
        rw [hv, hrep.litE]
        unfold gB1
        rw [ht]
        cases p.2 <;> cases b <;> simp
      exact ⟨fun ⟨a, b⟩ => ⟨(key b).1 a, b⟩, fun ⟨a, b⟩ => ⟨(key b).2 a, b⟩⟩
    · cases h1

def ctxOf (ops : Array Oper) (T : Env) (o : Oper) : Option Ctx :=
  match o.guard with
  | none => some []
  | some (j, want) => match ops[j]? with
    | some oj => match oj.dst with
      | some t => match T t with
        | some (c, .lit (.bool _)) => match wfCtx T ((t, want) :: c) with
          | true => some ((t, want) :: c)
          | false => none
        | _ => none
      | none => none
    | none => none

theorem ctxOf_spec {ops : Array Oper} {o : Oper} {ctx : Ctx} {g : Gh} {w : World} {a : Act} (h : ctxOf ops T o = some ctx) (htr : TR g w T a.tmps) :
    wfCtx T ctx = true ∧ (Region.wanted o (yielded ops a.tmps) = true ↔ ctxOk a.tmps ctx) := by
  unfold ctxOf at h
  split at h
  · rename_i hg
    simp at h; subst h
    exact ⟨rfl, by simp [Region.wanted, hg, ctxOk]⟩
  · rename_i j want hg
    split at h
    · rename_i oj hj
      split at h
      · rename_i t ht
        split at h
        · rename_i c b hT
          split at h
          · rename_i hw
            simp at h; subst h
            refine ⟨hw, ?_⟩
            have hy : yielded ops a.tmps j = (match a.tmps[t]? with | some (.bool b) => some b | _ => none) := by
              simp [yielded, hj, ht]
              split <;> simp_all
            simp only [Region.wanted, hg, hy]
            constructor
            · intro hwant p hp
              have hb : a.tmps[t]? = some (.bool want) := by
                cases hv : a.tmps[t]? with
                | none => simp [hv] at hwant
                | some v =>
                  rw [hv] at hwant
                  cases v <;> simp at hwant
                  subst hwant; rfl
              by_cases hcc : ctxOk a.tmps c
              · rcases List.mem_cons.1 hp with rfl | hp
                · exact hb
                · exact hcc p hp
              · have := (htr _ _ _ hT).2 hcc
                rw [hb] at this
                simp [undef] at this
            · intro hc
              have := hc (t, want) (List.mem_cons_self ..)
              simp only at this
              simp [this]
          · simp at h
        · simp at h
      · simp at h
    · simp at h

/-- A place that may be written under a condition. -/
def dstOk (N : Nat) (o : Oper) (ctx : Ctx) : Bool :=
  match o.dst with
  | some d => Nat.blt d N && !hasKey d ctx
  | none => true

theorem TR.put {g : Gh} {w : World} {a : Act} (h : TR g w T a.tmps) {o : Oper} {ctx : Ctx} {x : V} {v : Value} (hN : a.tmps.size = N) (hd : dstOk N o ctx = true)
    (h1 : ctxOk a.tmps ctx → Rep g w x v) (h2 : ¬ ctxOk a.tmps ctx → v = undef) : TR g w (T.setO o.dst (ctx, x)) (a.put o.dst v).tmps := by
  unfold dstOk at hd
  cases ho : o.dst with
  | none => simpa [Env.setO, Act.put] using h
  | some d =>
    rw [ho] at hd
    simp only [Bool.and_eq_true, Bool.not_eq_true'] at hd
    exact TR.set h (by rw [hN]; exact Nat.le_of_ble_eq_true hd.1) hd.2 h1 h2

end Go.Abs
