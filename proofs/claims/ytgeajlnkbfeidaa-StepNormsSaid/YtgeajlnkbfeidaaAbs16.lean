/- Regions whose order is drawn. -/
import Derived.Test.YtgeajlnkbfeidaaAbs15
import Derived.OrdersIn
namespace Go.Abs
open Go Go.RowKit

variable {P : Program} {tt : TT} {ro : Option Nat} {N : Nat} {H : Heap} {ds : List Nat}

/-- Places without conditions. -/
abbrev PE := Nat → Option V

def lift (T : PE) : Env := fun t => match T t with
  | some x => some ([], x)
  | none => none

def PE.set (T : PE) (d : Nat) (x : V) : PE := fun t => match Nat.beq t d with
  | true => some x
  | false => T t

def PE.setO (T : PE) (d : Option Tmp) (x : V) : PE := match d with
  | some d => T.set d x
  | none => T

def PE.ofL : List (Nat × V) → PE
  | [], _ => none
  | p :: r, t => match Nat.beq t p.1 with
    | true => some p.2
    | false => PE.ofL r t

theorem lift_ofL (l : List (Nat × V)) : lift (PE.ofL l) = Env.ofL l := by
  funext t
  induction l with
  | nil => rfl
  | cons p r ih =>
    simp only [lift, PE.ofL, Env.ofL] at ih ⊢
    split
    · rename_i x hx
      split at hx
      · rename_i hb; simp at hx; subst hx; simp only [hb]
      · rename_i hb; simp only [hb]; rw [← ih]; simp only [hx]
    · rename_i hx
      split at hx
      · simp at hx
      · rename_i hb; simp only [hb]; rw [← ih]; simp only [hx]

theorem lift_set (T : PE) (d : Nat) (x : V) : lift (T.set d x) = (lift T).set d ([], x) := by
  funext t
  simp only [lift, PE.set, Env.set]
  cases hb : Nat.beq t d with
  | true => rfl
  | false =>
    cases hT : T t with
    | none => rfl
    | some y => rfl

theorem lift_setO (T : PE) (d : Option Tmp) (x : V) : lift (T.setO d x) = (lift T).setO d ([], x) := by
  cases d with
  | none => rfl
  | some d => exact lift_set T d x

theorem PE.set_comm (T : PE) {d e : Nat} (x y : V) (h : d ≠ e) : (T.set d x).set e y = (T.set e y).set d x := by
  funext t
  simp only [PE.set]
  cases h1 : Nat.beq t e <;> cases h2 : Nat.beq t d <;> try rfl
  exact absurd ((Nat.eq_of_beq_eq_true h2).symm.trans (Nat.eq_of_beq_eq_true h1)) h

theorem PE.setO_comm (T : PE) {d e : Option Tmp} (x y : V) (h : ∀ a, d = some a → e ≠ some a) : (T.setO d x).setO e y = (T.setO e y).setO d x := by
  cases d with
  | none => rfl
  | some d =>
    cases e with
    | none => rfl
    | some e => exact PE.set_comm T x y (fun he => h d rfl (by rw [he]))

theorem PE.setO_other (T : PE) {d : Option Tmp} (x : V) {t : Nat} (h : d ≠ some t) : (T.setO d x) t = T t := by
  cases d with
  | none => rfl
  | some d =>
    simp only [PE.setO, PE.set]
    cases hb : Nat.beq t d with
    | false => rfl
    | true => exact absurd (by rw [Nat.eq_of_beq_eq_true hb]) h

/-- Two states of places that agree where an operation looks. -/
def Agree (T T' : PE) (xs : List Operand) : Prop := ∀ x ∈ xs, ∀ t, x = .tmp t → T t = T' t

theorem evalO_lift {T : PE} {ctx : Ctx} {x : Operand} : evalO (lift T) ctx x = evalO (lift T) [] x := by
  cases x with
  | tmp t =>
    simp only [evalO, lift]
    cases T t with
    | none => rfl
    | some y => rfl
  | _ => rfl

theorem evalO_agree {T T' : PE} {x : Operand} {ctx ctx' : Ctx} (h : ∀ t, x = .tmp t → T t = T' t) : evalO (lift T) ctx x = evalO (lift T') ctx' x := by
  rw [evalO_lift, evalO_lift (ctx := ctx')]
  cases x with
  | tmp t => simp only [evalO, lift, h t rfl]
  | _ => rfl

theorem evalL_agree {T T' : PE} : ∀ {xs : List Operand}, Agree T T' xs → evalL (lift T) [] xs = evalL (lift T') [] xs
  | [], _ => rfl
  | x :: r, h => by
    simp only [evalL]
    rw [evalO_agree (T := T) (T' := T') (ctx := []) (ctx' := []) (h x (List.mem_cons_self ..)), evalL_agree (fun y hy => h y (List.mem_cons_of_mem _ hy))]

theorem evalP_agree {T T' : PE} : ∀ {xs : List (Nat × Operand)}, Agree T T' (xs.map (·.2)) → evalP (lift T) [] xs = evalP (lift T') [] xs
  | [], _ => rfl
  | (i, x) :: r, h => by
    simp only [evalP]
    rw [evalO_agree (T := T) (T' := T') (ctx := []) (ctx' := []) (h x (List.mem_cons_self ..)), evalP_agree (fun y hy => h y (List.mem_cons_of_mem _ hy))]

theorem evalOO_agree {T T' : PE} {x : Option Operand} (h : Agree T T' x.toList) : evalOO (lift T) [] x = evalOO (lift T') [] x := by
  cases x with
  | none => rfl
  | some x => simp only [evalOO]; rw [evalO_agree (T := T) (T' := T') (ctx := []) (ctx' := []) (h x (by simp))]

theorem pureOp_agree {T T' : PE} {op : Op} (h : Agree T T' op.operands.toList) : pureOp tt (lift T) [] op = pureOp tt (lift T') [] op := by
  have o : ∀ x, x ∈ op.operands.toList → ∀ ctx, evalO (lift T) ctx x = evalO (lift T') ctx x := fun x hx ctx => evalO_agree (h x hx)
  cases op
  case call c =>
    obtain ⟨callee, args, tys⟩ := c
    cases callee with
    | builtin b =>
      have hl := evalL_agree (T := T) (T' := T') (xs := args.toList) (fun x hx => h x (by simpa [Op.operands, Call.operands] using hx))
      cases b <;> first | rfl | (unfold pureOp; simp only [hl])
    | _ => rfl
  case pick c a b =>
    cases c with
    | tmp c =>
      unfold pureOp
      simp only [o (.tmp c) (by simp [Op.operands]) [], o a (by simp [Op.operands]) [(c, true)], o b (by simp [Op.operands]) [(c, false)]]
    | _ => rfl
  case build t ps =>
    have hl := evalP_agree (T := T) (T' := T') (xs := ps.toList) (fun x hx => h x (by simpa [Op.operands] using hx))
    unfold pureOp; simp only [hl]
  case makeFunc fn fi ca =>
    have h1 := evalL_agree (T := T) (T' := T') (xs := fi.toList) (fun x hx => h x (by simp [Op.operands]; exact .inl (by simpa using hx)))
    have h2 := evalL_agree (T := T) (T' := T') (xs := ca.toList) (fun x hx => h x (by simp [Op.operands]; exact .inr (by simpa using hx)))
    unfold pureOp; simp only [h1, h2]
  case slice t x lo hi mx =>
    have h0 := o x (by simp [Op.operands]) []
    have h1 := evalOO_agree (T := T) (T' := T') (x := lo) (fun y hy => h y (by simp [Op.operands]; simp at hy; simp [hy]))
    have h2 := evalOO_agree (T := T) (T' := T') (x := hi) (fun y hy => h y (by simp [Op.operands]; simp at hy; simp [hy]))
    have h3 := evalOO_agree (T := T) (T' := T') (x := mx) (fun y hy => h y (by simp [Op.operands]; simp at hy; simp [hy]))
    unfold pureOp; simp only [h0, h1, h2, h3]
  case move x => unfold pureOp; simp only [o x (by simp [Op.operands]) []]
  case assign x => unfold pureOp; simp only [o x (by simp [Op.operands]) []]
  case binOp p t x y q => unfold pureOp; simp only [o x (by simp [Op.operands]) [], o y (by simp [Op.operands]) []]
  case unOp p t x => unfold pureOp; simp only [o x (by simp [Op.operands]) []]
  case extract x i => unfold pureOp; simp only [o x (by simp [Op.operands]) []]
  case fieldAddr t x i => unfold pureOp; simp only [o x (by simp [Op.operands]) []]
  case field t x i => unfold pureOp; simp only [o x (by simp [Op.operands]) []]
  case indexAddr t x i => unfold pureOp; simp only [o x (by simp [Op.operands]) [], o i (by simp [Op.operands]) []]
  case index t x i => unfold pureOp; simp only [o x (by simp [Op.operands]) [], o i (by simp [Op.operands]) []]
  case load t x => unfold pureOp; simp only [o x (by simp [Op.operands]) []]
  case convert s t x => unfold pureOp; simp only [o x (by simp [Op.operands]) []]
  case nilCheck x => unfold pureOp; simp only [o x (by simp [Op.operands]) []]
  all_goals rfl

def isPick : Op → Option (Nat × Operand × Operand)
  | .pick (.tmp c) a b => some (c, a, b)
  | _ => none

/-- What computes, on places without conditions: a choice is made by what is known. -/
def pureD (tt : TT) (T : PE) (op : Op) : Option (List Prop × V) :=
  match isPick op with
  | some (c, a, b) => match evalO (lift T) [] (.tmp c) with
    | some (.lit (.bool true)) => match evalO (lift T) [] a with
      | some x => some ([], x)
      | none => none
    | some (.lit (.bool false)) => match evalO (lift T) [] b with
      | some x => some ([], x)
      | none => none
    | _ => none
  | none => pureOp tt (lift T) [] op

theorem isPick_spec {op : Op} {c : Nat} {a b : Operand} (h : isPick op = some (c, a, b)) : op = .pick (.tmp c) a b := by
  unfold isPick at h
  split at h
  · simp at h; obtain ⟨rfl, rfl, rfl⟩ := h; rfl
  · simp at h

theorem pureD_agree {T T' : PE} {op : Op} (h : Agree T T' op.operands.toList) : pureD tt T op = pureD tt T' op := by
  unfold pureD
  rw [pureOp_agree h]
  cases hp : isPick op with
  | none => rfl
  | some q =>
    obtain ⟨c, a, b⟩ := q
    have hop := isPick_spec hp
    subst hop
    have o : ∀ x, x ∈ (Op.pick (.tmp c) a b).operands.toList → ∀ ctx, evalO (lift T) ctx x = evalO (lift T') ctx x := fun x hx ctx => evalO_agree (h x hx)
    simp only [o (.tmp c) (by simp [Op.operands]) [], o a (by simp [Op.operands]) [], o b (by simp [Op.operands]) []]

theorem pureD_sound (htt : TTok P tt) {g : Gh} {w : World} {T : PE} {a : Act} (htr : TR g w (lift T) a.tmps) {o : Oper} {Cs : List Prop} {z : V} (h : pureD tt T o.op = some (Cs, z)) (hC : ∀ c ∈ Cs, c) :
    ∃ v, (execOp a.eval o).run P w = .ok (.value v) w ∧ Rep g w z v := by
  have hc : ctxOk a.tmps [] := by simp [ctxOk]
  unfold pureD at h
  cases hp : isPick o.op with
  | none => rw [hp] at h; exact pureOp_sound htt htr hc h hC
  | some q =>
    obtain ⟨c, x, y⟩ := q
    have hop := isPick_spec hp
    rw [hp] at h
    simp only at h
    split at h
    · rename_i hb
      split at h
      · rename_i u hu
        simp at h; obtain ⟨rfl, rfl⟩ := h
        refine ⟨a.eval x, ?_, evalO_rep htr hc hu⟩
        simp [execOp, hop, (evalO_rep htr hc hb).litE, asBool]
      · simp at h
    · rename_i hb
      split at h
      · rename_i u hu
        simp at h; obtain ⟨rfl, rfl⟩ := h
        refine ⟨a.eval y, ?_, evalO_rep htr hc hu⟩
        simp [execOp, hop, (evalO_rep htr hc hb).litE, asBool]
      · simp at h
    · simp at h

theorem effW_agree {T T' : PE} {op : Op} {K : V → Heap → Prop} (h : Agree T T' op.operands.toList) (he : effW P tt (lift T) [] op H K) : effW P tt (lift T') [] op H K := by
  have o : ∀ x, x ∈ op.operands.toList → evalO (lift T) [] x = evalO (lift T') [] x := fun x hx => evalO_agree (h x hx)
  unfold effW at he ⊢
  split at he
  · rename_i f args tys
    have hl := evalL_agree (T := T) (T' := T') (xs := args.toList) (fun x hx => h x (by simp [Op.operands, Call.operands]; exact .inr (by simpa using hx)))
    rw [o f (by simp [Op.operands, Call.operands]), hl] at he
    exact he
  · rename_i args tys
    have hl := evalL_agree (T := T) (T' := T') (xs := args.toList) (fun x hx => h x (by simpa [Op.operands, Call.operands] using hx))
    rw [hl] at he
    exact he
  · exact he
  · rw [o _ (by simp [Op.operands])] at he
    exact he
  · rename_i t x
    rw [o x (by simp [Op.operands])] at he
    exact he
  · rename_i t p x
    rw [o p (by simp [Op.operands]), o x (by simp [Op.operands])] at he
    exact he
  · rename_i t n parts
    have hl := evalP_agree (T := T) (T' := T') (xs := parts.toList) (fun x hx => h x (by simpa [Op.operands] using hx))
    have hb : bslOp tt (lift T) [] (.buildSlice t n parts) = bslOp tt (lift T') [] (.buildSlice t n parts) := by simp only [bslOp, hl]
    rw [hb] at he
    exact he
  · rename_i t x yt
    rw [o x (by simp [Op.operands])] at he
    exact he
  · exact he.elim

theorem effW_mono {T : Env} {ctx : Ctx} {op : Op} {K K' : V → Heap → Prop} (hk : ∀ x H', K x H' → K' x H') (he : effW P tt T ctx op H K) : effW P tt T ctx op H K' := by
  unfold effW at he ⊢
  split at he
  · obtain ⟨fid, xs, ys, cs, h1, h2, h3⟩ := he
    exact ⟨fid, xs, ys, cs, h1, h2, h3.mono hk⟩
  · obtain ⟨s, x, t, t', e, e', te, es, ys, h1, h2, h3, h4, h5, h6, h7, h8, h9, h10, h11⟩ := he
    exact ⟨s, x, t, t', e, e', te, es, ys, h1, h2, h3, h4, h5, h6, h7, h8, h9, h10, hk _ _ h11⟩
  · obtain ⟨e, h1, h2, h3⟩ := he
    exact ⟨e, h1, h2, hk _ _ h3⟩
  · obtain ⟨e, h1, h2, h3⟩ := he
    exact ⟨e, h1, h2, hk _ _ h3⟩
  · obtain ⟨l, i, o, k, es, y, v, e, h1, h2, h3, h4, h5, h6⟩ := he
    exact ⟨l, i, o, k, es, y, v, e, h1, h2, h3, h4, h5, hk _ _ h6⟩
  · obtain ⟨l, i, o, k, es, y, v, y', e, h1, h2, h3, h4, h5, h6, h7, h8⟩ := he
    exact ⟨l, i, o, k, es, y, v, y', e, h1, h2, h3, h4, h5, h6, h7, hk _ _ h8⟩
  · obtain ⟨xs, h1, h2 | ⟨e, te, q1, q2, q3, h2, h3, h4⟩⟩ := he
    · exact ⟨xs, h1, .inl (hk _ _ h2)⟩
    · exact ⟨xs, h1, .inr ⟨e, te, q1, q2, q3, h2, h3, hk _ _ h4⟩⟩
  · obtain ⟨z, n, el, e, q1, q2, q3, h1, h2, h3⟩ := he
    exact ⟨z, n, el, e, q1, q2, q3, h1, h2, fun b hb => hk _ _ (h3 b hb)⟩
  · exact he.elim

/-- How an operation may work: 0: it only computes; 1: a load; 2: anything. -/
def effKind : Op → Nat
  | .call ⟨.value _, _, _⟩ => 2
  | .call ⟨.builtin .append, _, _⟩ => 2
  | .alloc _ => 2
  | .box _ _ => 2
  | .load _ _ => 1
  | .store _ _ _ => 2
  | .buildSlice _ _ _ => 2
  | .binOp .eql _ _ (.const (.slice none 0 0)) _ => 2
  | _ => 0

theorem effW_none {T : Env} {ctx : Ctx} {op : Op} {K : V → Heap → Prop} (hk : effKind op = 0) : ¬ effW P tt T ctx op H K := by
  intro he
  unfold effW at he
  split at he <;> first | exact he | (simp [effKind] at hk)

theorem effW_load {T : Env} {ctx : Ctx} {op : Op} {K : V → Heap → Prop} (hk : effKind op = 1) (he : effW P tt T ctx op H K) : ∃ x, K x H ∧ ∀ K' : V → Heap → Prop, K' x H → effW P tt T ctx op H K' := by
  unfold effW at he
  split at he <;> (try (simp [effKind] at hk; done))
  · obtain ⟨l, i, o, k, es, y, v, e, h1, h2, h3, h4, h5, h6⟩ := he
    exact ⟨v, h6, fun K' h' => by unfold effW; exact ⟨l, i, o, k, es, y, v, e, h1, h2, h3, h4, h5, h'⟩⟩

/-! ### Operations in an order that is drawn -/

/-- Is the operation carried out? -/
def guardV (ops : Array Oper) (T : PE) (o : Oper) : Option Bool :=
  match o.guard with
  | none => some true
  | some (j, want) => match ops[j]? with
    | some oj => match oj.dst with
      | some t => match T t with
        | some (.lit (.bool b)) => some (b == want)
        | _ => none
      | none => none
    | none => none

def dOk (N : Nat) (o : Oper) : Bool := match o.dst with
  | some d => Nat.blt d N
  | none => true

def OpD (P : Program) (tt : TT) (N : Nat) (ops : Array Oper) (o : Oper) (T : PE) (H : Heap) (next : PE → Heap → Prop) : Prop :=
  dOk N o = true ∧ ∃ b, guardV ops T o = some b ∧
    (b = true → (∃ Cs x, pureD tt T o.op = some (Cs, x) ∧ allP Cs ∧ next (T.setO o.dst x) H) ∨ effW P tt (lift T) [] o.op H (fun x H' => next (T.setO o.dst x) H')) ∧
    (b = false → next (T.setO o.dst .bad) H)

def RD (P : Program) (tt : TT) (N : Nat) (ops : Array Oper) : List Nat → PE → Heap → (PE → Heap → Prop) → Prop
  | [], T, H, K => K T H
  | i :: is, T, H, K => ∃ o, ops[i]? = some o ∧ OpD P tt N ops o T H (fun T' H' => RD P tt N ops is T' H' K)

theorem OpD_mono {ops : Array Oper} {o : Oper} {T : PE} {next next' : PE → Heap → Prop} (hn : ∀ T' H', next T' H' → next' T' H') (h : OpD P tt N ops o T H next) : OpD P tt N ops o T H next' := by
  obtain ⟨hd, b, hb, h1, h2⟩ := h
  refine ⟨hd, b, hb, fun h => ?_, fun h => hn _ _ (h2 h)⟩
  rcases h1 h with ⟨Cs, x, a1, a2, a3⟩ | he
  · exact .inl ⟨Cs, x, a1, a2, hn _ _ a3⟩
  · exact .inr (effW_mono (fun x H' hx => hn _ _ hx) he)

/-- One operation, on the machine. -/
theorem OpD_sound (htt : TTok P tt) {ops : Array Oper} {i : Nat} {o : Oper} (ho : ops[i]? = some o) {T : PE} {next : PE → Heap → Prop} (h : OpD P tt N ops o T H next) {g : Gh} {w : World} {a : Act} (hg : Good N g w (lift T) H ds a)
    {K : Act → World → Prop} {R : Exit → Act → World → Prop} (hn : ∀ T' H' g' w' a', next T' H' → Good N g' w' (lift T') H' ds a' → Ext g w g' w' → K a' w') : wpOpIn (FR ro) 0 P ops R i K a w := by
  obtain ⟨hd, b, hb, h1, h2⟩ := h
  have hc : ctxOk a.tmps [] := by simp [ctxOk]
  have hdst : dstOk N o [] = true := by
    unfold dOk at hd; unfold dstOk
    split <;> simp_all [hasKey]
  have hwant : Region.wanted o (yielded ops a.tmps) = b := by
    unfold guardV at hb
    split at hb
    · rename_i hgd
      simp at hb; subst hb
      simp [Region.wanted, hgd]
    · rename_i j want hgd
      split at hb
      · rename_i oj hj
        split at hb
        · rename_i t ht
          split at hb
          · rename_i q hq
            simp at hb; subst hb
            obtain ⟨v, hv, hrep⟩ := (hg.tr t [] (.lit (.bool q)) (by simp [lift, hq])).1 hc
            cases hrep.litE
            simp [Region.wanted, hgd, yielded, hj, ht, hv]
          · simp at hb
        · simp at hb
      · simp at hb
  unfold wpOpIn
  simp only [ho]
  cases b with
  | true =>
    rw [if_pos hwant]
    rcases h1 rfl with ⟨Cs, x, a1, a2, a3⟩ | he
    · obtain ⟨v, hrun, hrep⟩ := pureD_sound htt hg.tr a1 (allP_mem a2)
      refine wpIn_value (fun c e => by rw [e] at a1; simp [pureD, isPick, pureOp] at a1) hrun (hn _ _ g w _ a3 ?_ (Ext.refl g w))
      rw [lift_setO]
      exact hg.step (Ext.refl g w) hg.sr (setO_tr hg.tr hg.sz hdst (fun _ => hrep) (fun hnc => absurd hc hnc)) (put_defers ..) (put_size ..)
    · refine effW_sound htt hg hc he ?_
      intro x H' g' w' v hk hs hrep hx
      refine hn _ _ g' w' _ hk ?_ hx
      rw [lift_setO]
      exact hg.step hx hs (setO_tr (hg.tr.ext hx) hg.sz hdst (fun _ => hrep) (fun hnc => absurd hc hnc)) (put_defers ..) (put_size ..)
  | false =>
    rw [if_neg (by simp [hwant])]
    refine ⟨fun _ _ => trivial, hn _ _ g w _ (h2 rfl) ?_ (Ext.refl g w)⟩
    rw [lift_setO]
    exact hg.step (Ext.refl g w) hg.sr (setO_tr hg.tr hg.sz hdst (fun _ => .tup [] #[] rfl (by simp)) (fun hnc => absurd hc hnc)) (put_defers ..) (put_size ..)

/-- What a walk comes to, it comes to. -/
theorem OpD_feasible (htt : TTok P tt) {ops : Array Oper} {i : Nat} {o : Oper} (ho : ops[i]? = some o) {T : PE} {next : PE → Heap → Prop} (h : OpD P tt N ops o T H next) {g : Gh} {w : World} {a : Act} (hg : Good N g w (lift T) H ds a) :
    ∃ T' H' g' w' a', next T' H' ∧ Good N g' w' (lift T') H' ds a' := by
  have := OpD_sound (ro := none) htt ho h hg (K := fun _ _ => ∃ T' H' g' w' a', next T' H' ∧ Good N g' w' (lift T') H' ds a') (R := fun _ _ _ => False) (fun T' H' g' w' a' hn hg' _ => ⟨T', H', g', w', a', hn, hg'⟩)
  unfold wpOpIn at this
  simp only [ho] at this
  split at this
  · obtain ⟨_, hu⟩ := this
    generalize (o.semAt (FR none).round a.eval).run P w = r at hu
    cases r with
    | ok n w' =>
      cases n <;> simp only [Oper.uponIn] at hu <;> (try exact hu.elim) <;> (try exact hu)
      case enter f args =>
        obtain ⟨e, w'', fr, hR, _⟩ := hu.2.2 [] (room_wide _)
        cases e with
        | returned v => exact hR
        | panicked c => exact hR.elim
        | outgrown => obtain ⟨_, _, hq⟩ := hR; exact hq.elim
      case row row args =>
        obtain ⟨v, w'', hR, _⟩ := hu.2 default [] (room_wide _)
        exact hR
      case round l f tmps assign body =>
        obtain ⟨e, w'', hR, _⟩ := hu.2.2 default [] (room_wide _)
        cases e with
        | returned v => exact hR
        | panicked c => exact hR.elim
        | outgrown => obtain ⟨_, _, hq⟩ := hR; exact hq.elim
    | halt x w' => cases x <;> simp only [Oper.uponIn] at hu
  · exact this.2

/-! ### Exchanges -/

def guardT (ops : Array Oper) (o : Oper) : Option Tmp := match o.guard with
  | some (j, _) => (ops[j]?).bind (·.dst)
  | none => none

theorem looks_op {ops : Array Oper} {o : Oper} {t : Tmp} (h : Operand.tmp t ∈ o.op.operands.toList) : t ∈ o.looksAt ops :=
  List.mem_append_left _ (List.mem_filterMap.2 ⟨_, h, rfl⟩)

theorem looks_guard {ops : Array Oper} {o : Oper} {t : Tmp} (h : guardT ops o = some t) : t ∈ o.looksAt ops := by
  unfold guardT at h
  refine List.mem_append_right _ ?_
  split at h
  · rename_i j want hg
    simp only [hg]
    simpa using h
  · simp at h

/-- What an operation reads is not written by another one. -/
theorem agree_put {ops : Array Oper} {o : Oper} {T : PE} {d : Option Tmp} {x : V} (h : ∀ e, d = some e → e ∉ o.looksAt ops) : Agree T (T.setO d x) o.op.operands.toList := by
  intro y hy t ht
  subst ht
  exact (PE.setO_other T x (fun hd => h t hd (looks_op hy))).symm

theorem guardV_put {ops : Array Oper} {o : Oper} {T : PE} {d : Option Tmp} {x : V} (h : ∀ e, d = some e → e ∉ o.looksAt ops) : guardV ops (T.setO d x) o = guardV ops T o := by
  unfold guardV
  split
  · rfl
  · rename_i j want hg
    split
    · rename_i oj hj
      split
      · rename_i t ht
        have : (T.setO d x) t = T t := PE.setO_other T x (fun hd => h t hd (looks_guard (by simp [guardT, hg, hj, ht])))
        rw [this]
      · rfl
    · rfl

/-- What is known of an operation that only computes, ahead of it. -/
def Known (tt : TT) (N : Nat) (ops : Array Oper) (o : Oper) (T : PE) : Prop :=
  dOk N o = true ∧ ∃ b, guardV ops T o = some b ∧ (b = true → ∃ Cs x, pureD tt T o.op = some (Cs, x) ∧ allP Cs)

theorem Known.put {ops : Array Oper} {o : Oper} {T : PE} {d : Option Tmp} {x : V} (h : ∀ e, d = some e → e ∉ o.looksAt ops) : Known tt N ops o (T.setO d x) ↔ Known tt N ops o T := by
  unfold Known
  rw [guardV_put h, ← pureD_agree (agree_put (x := x) h)]

theorem OpD.known {ops : Array Oper} {o : Oper} {T : PE} {next : PE → Heap → Prop} (hk : effKind o.op = 0) (h : OpD P tt N ops o T H next) : Known tt N ops o T := by
  obtain ⟨hd, b, hb, h1, h2⟩ := h
  refine ⟨hd, b, hb, fun h => ?_⟩
  rcases h1 h with ⟨Cs, x, a1, a2, _⟩ | he
  · exact ⟨Cs, x, a1, a2⟩
  · exact absurd he (effW_none hk)

/-- What an operation that only computes comes to. -/
def valK (tt : TT) (ops : Array Oper) (o : Oper) (T : PE) : V :=
  match guardV ops T o with
  | some true => match pureD tt T o.op with
    | some (_, x) => x
    | none => .bad
  | _ => .bad

theorem valK_put {ops : Array Oper} {o : Oper} {T : PE} {d : Option Tmp} {x : V} (h : ∀ e, d = some e → e ∉ o.looksAt ops) : valK tt ops o (T.setO d x) = valK tt ops o T := by
  unfold valK
  rw [guardV_put h, ← pureD_agree (agree_put (x := x) h)]

theorem Known.iff {ops : Array Oper} {o : Oper} {T : PE} {next : PE → Heap → Prop} (hk : effKind o.op = 0) (h : Known tt N ops o T) : OpD P tt N ops o T H next ↔ next (T.setO o.dst (valK tt ops o T)) H := by
  obtain ⟨hd, b, hb, h1⟩ := h
  cases b with
  | false =>
    have hv : valK tt ops o T = .bad := by unfold valK; rw [hb]
    rw [hv]
    refine ⟨?_, fun h => ⟨hd, false, hb, ⟨fun h => by simp at h, fun _ => h⟩⟩⟩
    rintro ⟨_, b', hb', _, h2⟩
    rw [hb] at hb'; cases hb'
    exact h2 rfl
  | true =>
    obtain ⟨Cs, x, hp, hC⟩ := h1 rfl
    have hv : valK tt ops o T = x := by unfold valK; rw [hb]; simp only [hp]
    rw [hv]
    refine ⟨?_, fun h => ⟨hd, true, hb, ⟨fun _ => .inl ⟨Cs, x, hp, hC, h⟩, fun h => by simp at h⟩⟩⟩
    rintro ⟨_, b', hb', h2, _⟩
    rw [hb] at hb'; cases hb'
    rcases h2 rfl with ⟨Cs', x', a1, a2, a3⟩ | he
    · rw [hp] at a1; cases a1; exact a3
    · exact absurd he (effW_none hk)

/-- Another operation, beside one that is written elsewhere. -/
theorem OpD_put {ops : Array Oper} {o : Oper} {T : PE} {d : Option Tmp} {y : V} {next : PE → Heap → Prop} (h : ∀ e, d = some e → e ∉ o.looksAt ops) (hne : ∀ a, d = some a → o.dst ≠ some a) :
    OpD P tt N ops o (T.setO d y) H next ↔ OpD P tt N ops o T H (fun T' H' => next (T'.setO d y) H') := by
  have ha := agree_put (T := T) (x := y) h
  have ha' : Agree (T.setO d y) T o.op.operands.toList := fun x hx t ht => (ha x hx t ht).symm
  unfold OpD
  rw [guardV_put h]
  have hn : ∀ x H', next ((T.setO d y).setO o.dst x) H' ↔ next ((T.setO o.dst x).setO d y) H' := fun x H' => by rw [PE.setO_comm T y x hne]
  constructor
  · rintro ⟨hd, b, hb, h1, h2⟩
    refine ⟨hd, b, hb, fun hh => ?_, fun hh => (hn _ _).1 (h2 hh)⟩
    rcases h1 hh with ⟨Cs, x, a1, a2, a3⟩ | he
    · exact .inl ⟨Cs, x, by rw [pureD_agree ha]; exact a1, a2, (hn _ _).1 a3⟩
    · exact .inr (effW_agree ha' (effW_mono (fun x H' hx => (hn _ _).1 hx) he))
  · rintro ⟨hd, b, hb, h1, h2⟩
    refine ⟨hd, b, hb, fun hh => ?_, fun hh => (hn _ _).2 (h2 hh)⟩
    rcases h1 hh with ⟨Cs, x, a1, a2, a3⟩ | he
    · exact .inl ⟨Cs, x, by rw [pureD_agree ha']; exact a1, a2, (hn _ _).2 a3⟩
    · exact .inr (effW_agree ha (effW_mono (fun x H' hx => (hn _ _).2 hx) he))

/-- Two operations change places: the later one only computes, and is known. -/
theorem swap_pure {ops : Array Oper} {oi oj : Oper} {T : PE} {next : PE → Heap → Prop} (hap : oj.apart ops oi = true) (hk : effKind oi.op = 0) (hK : Known tt N ops oi T)
    (h : OpD P tt N ops oj T H (fun T1 H1 => OpD P tt N ops oi T1 H1 next)) : OpD P tt N ops oi T H (fun T1 H1 => OpD P tt N ops oj T1 H1 next) := by
  obtain ⟨h1, h2, h3⟩ := Oper.apart_spec hap
  rw [Known.iff hk hK]
  have hne : ∀ a, oi.dst = some a → oj.dst ≠ some a := fun a ha hb => h2 a hb ha
  rw [OpD_put (fun e he => h3 e he) hne]
  -- behind the other one this one comes to the same
  obtain ⟨hd, b, hb, g1, g2⟩ := h
  have key : ∀ x H', OpD P tt N ops oi (T.setO oj.dst x) H' next → next ((T.setO oj.dst x).setO oi.dst (valK tt ops oi T)) H' := by
    intro x H' hx
    rw [Known.iff hk ((Known.put (fun e he => h1 e he)).2 hK), valK_put (fun e he => h1 e he)] at hx
    exact hx
  refine ⟨hd, b, hb, fun hh => ?_, fun hh => key _ _ (g2 hh)⟩
  rcases g1 hh with ⟨Cs, x, a1, a2, a3⟩ | he
  · exact .inl ⟨Cs, x, a1, a2, key _ _ a3⟩
  · exact .inr (effW_mono (fun x H' hx => key _ _ hx) he)

/-- Two operations change places: the earlier one only computes. -/
theorem swap_any {ops : Array Oper} {oi oj : Oper} {T : PE} {next : PE → Heap → Prop} (hap : oj.apart ops oi = true) (hk : effKind oj.op = 0)
    (h : OpD P tt N ops oj T H (fun T1 H1 => OpD P tt N ops oi T1 H1 next)) : OpD P tt N ops oi T H (fun T1 H1 => OpD P tt N ops oj T1 H1 next) := by
  obtain ⟨h1, h2, h3⟩ := Oper.apart_spec hap
  have hK := OpD.known hk h
  rw [Known.iff hk hK, OpD_put (fun e he => h1 e he) (fun a ha hb => h2 a ha hb)] at h
  obtain ⟨hd, b, hb, g1, g2⟩ := h
  have key : ∀ x H', next ((T.setO oi.dst x).setO oj.dst (valK tt ops oj T)) H' → OpD P tt N ops oj (T.setO oi.dst x) H' next := by
    intro x H' hx
    rw [Known.iff hk ((Known.put (fun e he => h3 e he)).2 hK), valK_put (fun e he => h3 e he)]
    exact hx
  refine ⟨hd, b, hb, fun hh => ?_, fun hh => key _ _ (g2 hh)⟩
  rcases g1 hh with ⟨Cs, x, a1, a2, a3⟩ | he
  · exact .inl ⟨Cs, x, a1, a2, key _ _ a3⟩
  · exact .inr (effW_mono (fun x H' hx => key _ _ hx) he)

/-- A load comes to one state. -/
theorem OpD_load {ops : Array Oper} {o : Oper} {T : PE} {next : PE → Heap → Prop} (hk : effKind o.op = 1) (h : OpD P tt N ops o T H next) :
    ∃ x, next (T.setO o.dst x) H ∧ ∀ (T' : PE) (next' : PE → Heap → Prop), Agree T T' o.op.operands.toList → guardV ops T' o = guardV ops T o → next' (T'.setO o.dst x) H → OpD P tt N ops o T' H next' := by
  obtain ⟨hd, b, hb, h1, h2⟩ := h
  cases b with
  | false => exact ⟨.bad, h2 rfl, fun T' next' _ hg hn => ⟨hd, false, by rw [hg]; exact hb, ⟨fun h => by simp at h, fun _ => hn⟩⟩⟩
  | true =>
    rcases h1 rfl with ⟨Cs, x, a1, a2, a3⟩ | he
    · exact ⟨x, a3, fun T' next' ha hg hn => ⟨hd, true, by rw [hg]; exact hb, ⟨fun _ => .inl ⟨Cs, x, by rw [← pureD_agree ha]; exact a1, a2, hn⟩, fun h => by simp at h⟩⟩⟩
    · obtain ⟨x, hx, hany⟩ := effW_load hk he
      exact ⟨x, hx, fun T' next' ha hg hn => ⟨hd, true, by rw [hg]; exact hb, ⟨fun _ => .inr (effW_agree ha (hany _ hn)), fun h => by simp at h⟩⟩⟩

theorem swap_loads {ops : Array Oper} {oi oj : Oper} {T : PE} {next : PE → Heap → Prop} (hap : oj.apart ops oi = true) (hki : effKind oi.op = 1) (hkj : effKind oj.op = 1)
    (h : OpD P tt N ops oj T H (fun T1 H1 => OpD P tt N ops oi T1 H1 next)) : OpD P tt N ops oi T H (fun T1 H1 => OpD P tt N ops oj T1 H1 next) := by
  obtain ⟨h1, h2, h3⟩ := Oper.apart_spec hap
  obtain ⟨xj, hj, anyj⟩ := OpD_load hkj h
  obtain ⟨xi, hi, anyi⟩ := OpD_load hki hj
  have aj : Agree T (T.setO oj.dst xj) oi.op.operands.toList := agree_put (fun e he => h1 e he)
  refine anyi T _ (fun x hx t ht => (aj x hx t ht).symm) (guardV_put (fun e he => h1 e he)).symm ?_
  refine anyj (T.setO oi.dst xi) _ (agree_put (fun e he => h3 e he)) (guardV_put (fun e he => h3 e he)) ?_
  rw [PE.setO_comm T xi xj (fun a ha hb => h2 a hb ha)]
  exact hi

/-- May the two change places? -/
def pairOk (ops : Array Oper) (oj oi : Oper) : Bool :=
  oj.apart ops oi && (Nat.beq (effKind oi.op) 0 || Nat.beq (effKind oj.op) 0 || (Nat.beq (effKind oi.op) 1 && Nat.beq (effKind oj.op) 1))

theorem OpD_at {ops : Array Oper} {o : Oper} {T : PE} {next : PE → Heap → Prop} (h : OpD P tt N ops o T H next) : OpD P tt N ops o T H (fun T1 H1 => (∃ x, T1 = T.setO o.dst x) ∧ next T1 H1) := by
  obtain ⟨hd, b, hb, g1, g2⟩ := h
  refine ⟨hd, b, hb, fun hh => ?_, fun hh => ⟨⟨_, rfl⟩, g2 hh⟩⟩
  rcases g1 hh with ⟨Cs, x, a1, a2, a3⟩ | he
  · exact .inl ⟨Cs, x, a1, a2, ⟨_, rfl⟩, a3⟩
  · exact .inr (effW_mono (fun x H' hx => ⟨⟨_, rfl⟩, hx⟩) he)

/-- One operation ahead of others. -/
theorem front {ops : Array Oper} {i : Nat} {oi : Oper} (hi : ops[i]? = some oi) {rest : List Nat} {K : PE → Heap → Prop} :
    ∀ (js : List Nat), (∀ j ∈ js, ∀ oj, ops[j]? = some oj → pairOk ops oj oi = true) → ∀ (T : PE) (H : Heap), (effKind oi.op = 0 → Known tt N ops oi T) →
      RD P tt N ops (js ++ i :: rest) T H K → RD P tt N ops (i :: (js ++ rest)) T H K := by
  intro js
  induction js with
  | nil => intro _ T H _ h; exact h
  | cons j js ih =>
    intro hj T H hK h
    obtain ⟨oj, ho, h⟩ := h
    have hp := hj j (List.mem_cons_self ..) oj ho
    simp only [pairOk, Bool.and_eq_true, Bool.or_eq_true] at hp
    obtain ⟨hap, hkinds⟩ := hp
    obtain ⟨h1, h2, h3⟩ := Oper.apart_spec hap
    have h' : OpD P tt N ops oj T H (fun T1 H1 => OpD P tt N ops oi T1 H1 (fun T2 H2 => RD P tt N ops (js ++ rest) T2 H2 K)) := by
      refine OpD_mono ?_ (OpD_at h)
      rintro T1 H1 ⟨⟨x, rfl⟩, hr⟩
      obtain ⟨o', ho', hr'⟩ := ih (fun k hk => hj k (List.mem_cons_of_mem _ hk)) _ H1 (fun hk => (Known.put (fun e he => h1 e he)).2 (hK hk)) hr
      rw [hi] at ho'; cases ho'
      exact hr'
    refine ⟨oi, hi, ?_⟩
    have fin : OpD P tt N ops oi T H (fun T1 H1 => OpD P tt N ops oj T1 H1 (fun T2 H2 => RD P tt N ops (js ++ rest) T2 H2 K)) := by
      rcases hkinds with (hk | hk) | ⟨hk1, hk2⟩
      · have hk := Nat.eq_of_beq_eq_true hk
        exact swap_pure hap hk (hK hk) h'
      · exact swap_any hap (Nat.eq_of_beq_eq_true hk) h'
      · exact swap_loads hap (Nat.eq_of_beq_eq_true hk1) (Nat.eq_of_beq_eq_true hk2) h'
    exact OpD_mono (fun T1 H1 hx => ⟨oj, ho, hx⟩) fin

theorem known_of (htt : TTok P tt) {ops : Array Oper} {i : Nat} {oi : Oper} (hi : ops[i]? = some oi) (hk : effKind oi.op = 0) {rest : List Nat} {K : PE → Heap → Prop} :
    ∀ (js : List Nat), (∀ j ∈ js, ∀ oj, ops[j]? = some oj → pairOk ops oj oi = true) → ∀ (T : PE) (H : Heap) (g : Gh) (w : World) (a : Act), Good N g w (lift T) H ds a →
      RD P tt N ops (js ++ i :: rest) T H K → Known tt N ops oi T := by
  intro js
  induction js with
  | nil =>
    rintro _ T H g w a _ ⟨o, ho, h⟩
    rw [hi] at ho; cases ho
    exact OpD.known hk h
  | cons j js ih =>
    rintro hj T H g w a hg ⟨oj, ho, h⟩
    have hp := hj j (List.mem_cons_self ..) oj ho
    simp only [pairOk, Bool.and_eq_true] at hp
    obtain ⟨h1, h2, h3⟩ := Oper.apart_spec hp.1
    obtain ⟨T1, H1, g1, w1, a1, ⟨⟨x, rfl⟩, hr⟩, hg1⟩ := OpD_feasible htt ho (OpD_at h) hg
    exact (Known.put (fun e he => h1 e he)).1 (ih (fun k hk' => hj k (List.mem_cons_of_mem _ hk')) _ H1 g1 w1 a1 hg1 hr)

/-! ### All orders -/

/-- Must the one operation stand behind the other one? -/
def reach (ops : Array Oper) : Nat → Nat → Nat → Bool
  | 0, _, _ => false
  | n + 1, i, j => match ops[i]? with
    | some o => o.after.any fun e => Region.binds .any e && (Nat.beq e.on j || reach ops n e.on j)
    | none => false

/-- Operations whose order does not matter, as far as it is open. -/
def drawOk (ops : Array Oper) : Bool :=
  (List.range ops.size).all fun i => match ops[i]? with
    | some oi => (oi.after.all fun e => !Region.binds .any e || Nat.blt e.on i) && (List.range i).all fun j => reach ops ops.size i j || match ops[j]? with
      | some oj => pairOk ops oj oi
      | none => true
    | none => true

theorem reach_listed {ops : Array Oper} {listed : Array Bool} (hcl : ∀ (k : Nat) o, ops[k]? = some o → listed.getD k false = true → ∀ e ∈ o.after, Region.binds .any e = true → listed.getD e.on false = true) :
    ∀ (n i j : Nat) o, ops[i]? = some o → (∀ e ∈ o.after, Region.binds .any e = true → listed.getD e.on false = true) → reach ops n i j = true → listed.getD j false = true
  | 0, i, j, o, _, _, h => by simp [reach] at h
  | n + 1, i, j, o, ho, hl, h => by
    simp only [reach, ho] at h
    obtain ⟨e, he, hb⟩ := Array.any_eq_true'.1 h
    simp only [Bool.and_eq_true, Bool.or_eq_true] at hb
    have hon := hl e he hb.1
    rcases hb.2 with h1 | h1
    · rw [← Nat.eq_of_beq_eq_true h1]; exact hon
    · cases hoe : ops[e.on]? with
      | none => cases n <;> simp [reach, hoe] at h1
      | some o' => exact reach_listed hcl n e.on j o' hoe (hcl _ o' hoe hon) h1

/-- What is left to be done. -/
structure Left (ops : Array Oper) (listed : Array Bool) (L : List Nat) : Prop where
  size : listed.size = ops.size
  mem : ∀ i, i ∈ L ↔ (i < ops.size ∧ listed.getD i false = false)
  sorted : L.Pairwise (· < ·)
  closed : ∀ (k : Nat) o, ops[k]? = some o → listed.getD k false = true → ∀ e ∈ o.after, Region.binds .any e = true → listed.getD e.on false = true

theorem any_sound (htt : TTok P tt) {ops : Array Oper} (hok : drawOk ops = true) {K : PE → Heap → Prop} {R : Exit → Act → World → Prop} :
    ∀ (fuel : Nat) (L : List Nat) (listed : Array Bool), L.length = fuel → Left ops listed L → ∀ (T : PE) (H : Heap) (g : Gh) (w : World) (a : Act), Good N g w (lift T) H ds a → RD P tt N ops L T H K →
      (∀ T' H' g' w' a', K T' H' → Good N g' w' (lift T') H' ds a' → Ext g w g' w' → R .normal a' w') → wpAnyIn (FR ro) 0 P .any ops R fuel listed a w := by
  have hpair : ∀ (i j : Nat) oi oj, ops[i]? = some oi → ops[j]? = some oj → j < i → reach ops ops.size i j = false → pairOk ops oj oi = true := by
    intro i j oi oj hi hj hlt hr
    have := List.all_eq_true.1 hok i (List.mem_range.2 (Array.getElem?_eq_some_iff.1 hi).1)
    simp only [hi, Bool.and_eq_true] at this
    have h2 := List.all_eq_true.1 this.2 j (List.mem_range.2 hlt)
    simpa [hr, hj] using h2
  have hafter : ∀ (i : Nat) oi, ops[i]? = some oi → ∀ e ∈ oi.after, Region.binds .any e = true → e.on < i := by
    intro i oi hi e he hb
    have := List.all_eq_true.1 hok i (List.mem_range.2 (Array.getElem?_eq_some_iff.1 hi).1)
    simp only [hi, Bool.and_eq_true] at this
    have h2 := Array.all_eq_true_iff_forall_mem.1 this.1 e he
    simp only [hb, Bool.not_true, Bool.false_or] at h2
    exact Nat.le_of_ble_eq_true h2
  intro fuel
  induction fuel with
  | zero =>
    intro L listed hL hleft T H g w a hg h hr
    have : L = [] := List.length_eq_zero_iff.1 hL
    subst this
    refine ⟨?_, hr T H g w a h hg (Ext.refl g w)⟩
    rw [List.eq_nil_iff_forall_not_mem]
    intro i hi
    obtain ⟨h0, o, ho, _⟩ := mem_ready.1 hi
    have hlt := (Array.getElem?_eq_some_iff.1 ho).1
    have : i ∈ ([] : List Nat) := (hleft.mem i).2 ⟨hlt, by
      rw [Array.getD_eq_getD_getElem?] at h0 ⊢
      rw [Array.getElem?_eq_getElem (by rw [hleft.size]; exact hlt)] at h0 ⊢
      simpa using h0⟩
    cases this
  | succ fuel ih =>
    intro L listed hL hleft T H g w a hg h hr
    refine ⟨fun hnil => ?_, fun i hi => ?_⟩
    · -- the least that is left is ready
      cases L with
      | nil => simp at hL
      | cons i L =>
        exfalso
        obtain ⟨hlt, hun⟩ := (hleft.mem i).1 (List.mem_cons_self ..)
        have hri : i ∈ Region.ready .any ops listed := by
          refine mem_ready.2 ⟨?_, ops[i], Array.getElem?_eq_getElem hlt, fun e he hb => ?_⟩
          · rw [Array.getD_eq_getD_getElem?] at hun ⊢
            rw [Array.getElem?_eq_getElem (by rw [hleft.size]; exact hlt)] at hun ⊢
            simpa using hun
          · have hlt' := hafter i _ (Array.getElem?_eq_getElem hlt) e he hb
            cases hx : listed.getD e.on false with
            | true => rfl
            | false =>
              have hm := (hleft.mem e.on).2 ⟨by omega, hx⟩
              rcases List.mem_cons.1 hm with he' | hm'
              · omega
              · have := (List.pairwise_cons.1 hleft.sorted).1 _ hm'; omega
        rw [hnil] at hri; cases hri
    · obtain ⟨h0, oi, hoi, hall⟩ := mem_ready.1 hi
      have hlt := (Array.getElem?_eq_some_iff.1 hoi).1
      have hun : listed.getD i false = false := by
        rw [Array.getD_eq_getD_getElem?] at h0 ⊢
        rw [Array.getElem?_eq_getElem (by rw [hleft.size]; exact hlt)] at h0 ⊢
        simpa using h0
      obtain ⟨js, rest, rfl⟩ := List.append_of_mem ((hleft.mem i).2 ⟨hlt, hun⟩)
      have hsorted := hleft.sorted
      rw [List.pairwise_append] at hsorted
      obtain ⟨hs1, hs2, hs3⟩ := hsorted
      have hjs : ∀ j ∈ js, ∀ oj, ops[j]? = some oj → pairOk ops oj oi = true := by
        intro j hj oj hoj
        have hji : j < i := hs3 j hj i (List.mem_cons_self ..)
        refine hpair i j oi oj hoi hoj hji ?_
        cases hre : reach ops ops.size i j with
        | false => rfl
        | true =>
          have hl := reach_listed hleft.closed _ i j oi hoi hall hre
          have := ((hleft.mem j).1 (List.mem_append_left _ hj)).2
          rw [hl] at this; cases this
      obtain ⟨o', ho', hstep⟩ := front hoi js hjs T H (fun hk => known_of htt hoi hk js hjs T H g w a hg h) h
      rw [hoi] at ho'; cases ho'
      refine OpD_sound htt hoi hstep hg ?_
      intro T1 H1 g1 w1 a1 hn hg1 hx1
      refine ih (js ++ rest) (listed.setIfInBounds i true) (by simp at hL ⊢; omega) ?_ T1 H1 g1 w1 a1 hg1 hn (fun T' H' g' w' a' hk hg' hx' => hr T' H' g' w' a' hk hg' (hx1.trans hx'))
      have hge : ∀ k, (listed.setIfInBounds i true).getD k false = if k = i then true else listed.getD k false := by
        intro k
        by_cases hki : k = i
        · subst hki
          rw [if_pos rfl, Array.getD_eq_getD_getElem?, Array.getElem?_setIfInBounds]
          simp [hleft.size, hlt]
        · rw [if_neg hki]; exact getD_set_ne false (Ne.symm hki)
      refine ⟨by simp [hleft.size], fun k => ?_, ?_, fun k o ho hk e he hb => ?_⟩
      · rw [hge]
        have hm := hleft.mem k
        have hni : i ∉ js := fun hc => by have := hs3 i hc i (List.mem_cons_self ..); omega
        have hni' : i ∉ rest := fun hc => by have := (List.pairwise_cons.1 hs2).1 i hc; omega
        simp only [List.mem_append, List.mem_cons] at hm ⊢
        by_cases hki : k = i
        · subst hki
          simp [hni, hni']
        · rw [if_neg hki]
          rw [← hm]
          simp [hki]
      · rw [List.pairwise_append]
        exact ⟨hs1, (List.pairwise_cons.1 hs2).2, fun x hx y hy => hs3 x hx y (List.mem_cons_of_mem _ hy)⟩
      · rw [hge] at hk ⊢
        split
        · rfl
        · split at hk
          · rename_i hne hki
            subst hki
            rw [hoi] at ho; cases ho
            exact hall e he hb
          · exact hleft.closed k o ho hk e he hb

theorem rep_false (n i : Nat) : (Array.replicate n false).getD i false = false := by
  rw [Array.getD_eq_getD_getElem?]
  by_cases h : i < n
  · rw [Array.getElem?_eq_getElem (by simpa using h)]; simp
  · rw [Array.getElem?_eq_none (by simpa using h)]; rfl

/-- **A region whose order is drawn.** -/
theorem C_draw (htt : TTok P tt) (hm : P.follows .mixedOrders = true) {c : Code} {n : Nat} {l : List (Nat × V)} {Q : Exit → Env → Heap → List Nat → Prop} (hk : c.kind = 8) (hn : c.ops.size = n) (hok : drawOk c.ops = true)
    (h : RD P tt N c.ops (fromTo 0 n) (PE.ofL l) H (fun T' H' => Q .normal (lift T') H' ds)) : AWP P ro N c (Env.ofL l) H ds Q := by
  cases c with
  | region id ops draw =>
    cases draw with
    | true =>
      intro g w a R hg hr
      simp only [Code.ops] at hn h hok
      refine wpIn_region_any hm ?_
      have hg0 : Good N g w (lift (PE.ofL l)) H ds a := by rw [lift_ofL]; exact hg
      obtain ⟨d1, d2⟩ := hg0.sr.drew
      refine any_sound (ro := ro) htt hok ops.size (fromTo 0 n) (Array.replicate ops.size false) (by simp [fromTo, hn]) ?_ (PE.ofL l) H g _ a (hg0.step d2 d1 (hg0.tr.ext d2) rfl rfl) h
        (fun T' H' g' w' a' hk hg' hx => hr _ _ _ _ _ _ _ hk hg' (d2.trans hx))
      refine ⟨by simp, fun i => ?_, by simpa [fromTo] using List.pairwise_lt_range' .., fun k o ho hk => ?_⟩
      · simp only [fromTo, List.mem_range', hn]
        constructor
        · rintro ⟨j, hj, rfl⟩
          exact ⟨by omega, rep_false _ _⟩
        · rintro ⟨h1, _⟩
          exact ⟨i, by omega, by omega⟩
      · rw [rep_false] at hk; cases hk
    | false => simp [Code.kind] at hk
  | _ => simp [Code.kind] at hk

end Go.Abs
