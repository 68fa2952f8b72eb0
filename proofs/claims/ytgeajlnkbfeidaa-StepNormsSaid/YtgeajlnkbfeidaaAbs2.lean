/- The operations that only compute: what each makes of abstract values, and that the machine makes the same. -/
import Derived.Test.YtgeajlnkbfeidaaAbs1
import Derived.WalkKit
import Derived.Orders
import Derived.Laws.Slices
namespace Go.Abs
open Go Go.RowKit

/-! ### Constants, types -/

def ofConst1 : Value → Option V
  | .slice none 0 0 => some (.sl true 0 (fun _ => .bad))
  | .func (.func f) a b => if a.isEmpty && b.isEmpty then some (.fn (.func f) [] []) else none
  | v => if plain v then some (.lit v) else none

def mapO (f : Value → Option V) : List Value → Option (List V)
  | [] => some []
  | x :: r => match f x, mapO f r with
    | some y, some ys => some (y :: ys)
    | _, _ => none

def ofConst : Value → Option V
  | .agg cs => match mapO ofConst1 cs.toList with
    | some ys => if cs.all one then some (.agg ys) else none
    | none => none
  | .tuple vs => if vs.isEmpty then some (.tup []) else none
  | v => ofConst1 v

theorem ofConst1_rep {g : Gh} {w : World} {v : Value} {x : V} (h : ofConst1 v = some x) : Rep g w x v := by
  unfold ofConst1 at h
  split at h
  · simp at h; subst h; exact .sl0 _ _ _ _ (fun _ => rfl)
  · rename_i f a b
    split at h
    · rename_i hb
      simp at h; subst h
      simp at hb
      obtain ⟨rfl, rfl⟩ := hb
      exact .fn _ _ _ _ _ rfl rfl (by simp) (by simp)
    · simp at h
  · split at h
    · rename_i hp; simp at h; subst h; exact .lit _ hp
    · simp at h

theorem mapO_get {f : Value → Option V} : ∀ {l : List Value} {ys : List V}, mapO f l = some ys → l.length = ys.length ∧ ∀ (i : Nat) x y, ys[i]? = some x → l[i]? = some y → f y = some x
  | [], ys, h => by simp [mapO] at h; subst h; simp
  | a :: r, ys, h => by
    simp only [mapO] at h
    split at h
    · rename_i y zs h1 h2
      simp at h; subst h
      obtain ⟨hl, hg⟩ := mapO_get h2
      refine ⟨by simp [hl], fun i x y' hx hy => ?_⟩
      cases i with
      | zero => simp at hx hy; subst hx; subst hy; exact h1
      | succ i => simp at hx hy; exact hg i x y' hx hy
    · simp at h

theorem ofConst_rep {g : Gh} {w : World} {v : Value} {x : V} (h : ofConst v = some x) : Rep g w x v := by
  unfold ofConst at h
  split at h
  · rename_i cs
    split at h
    · rename_i ys hy
      split at h
      · rename_i ho
        simp at h; subst h
        obtain ⟨hl, hg⟩ := mapO_get hy
        refine .agg _ _ (by simpa using hl.symm) (fun i x y hx hyy => ofConst1_rep (hg i x y hx (by simpa using hyy))) (fun i y hyy => ?_)
        have := Array.all_eq_true_iff_forall_mem.1 ho y (Array.mem_of_getElem? hyy)
        exact this
      · simp at h
    · simp at h
  · rename_i vs
    split at h
    · rename_i he
      simp at h; subst h
      simp at he; subst he
      exact .tup _ _ rfl (by simp)
    · simp at h
  · exact ofConst1_rep h

/-- What is known of a type. -/
structure TyE where
  d : TypeDesc
  size : Nat
  bytes : Nat
  zero : V

def isAggD : TypeDesc → Bool
  | .struct _ | .array _ _ => true
  | _ => false

def tyOf (P : Program) (t : TypeId) : Option TyE :=
  match P.info? t, P.underlying t with
  | some i, some d => match i.zero with
    | some z => match ofConst z with
      | some x => some ⟨d, i.size, i.bytes, x⟩
      | none => none
    | none => none
  | _, _ => none

/-- May values of the type be held against one another, field by field? -/
def eqOk (P : Program) (t : TypeId) : Bool := !P.stoodInHeld t && !P.eqGuardType P.depth t

structure TT where
  ty : TypeId → Option TyE
  eq : TypeId → Bool

instance : CoeFun TT (fun _ => TypeId → Option TyE) := ⟨TT.ty⟩

def TTok (P : Program) (tt : TT) : Prop := (∀ t e, tt t = some e → tyOf P t = some e) ∧ ∀ t, tt.eq t = true → eqOk P t = true

structure TyFacts (P : Program) (t : TypeId) (e : TyE) : Prop where
  info : ∃ i, P.info? t = some i ∧ i.size = e.size ∧ i.bytes = e.bytes ∧ ∃ z, i.zero = some z ∧ ofConst z = some e.zero
  under : P.underlying t = some e.d

theorem TTok.facts {P : Program} {tt : TT} (h : TTok P tt) {t : TypeId} {e : TyE} (ht : tt t = some e) : TyFacts P t e := by
  have := h.1 t e ht
  unfold tyOf at this
  split at this
  · rename_i i d hi hd
    split at this
    · rename_i z hz
      split at this
      · rename_i x hx
        simp at this
        subst this
        exact ⟨⟨i, hi, rfl, rfl, z, hz, hx⟩, hd⟩
      · simp at this
    · simp at this
  · simp at this

/-! ### The places of a frame -/

abbrev Ctx := List (Nat × Bool)
abbrev Env := Nat → Option (Ctx × V)

def hasKey (d : Nat) : Ctx → Bool
  | [] => false
  | p :: r => Nat.beq p.1 d || hasKey d r

def subCtx (c c' : Ctx) : Bool := c.all fun p => c'.any fun q => Nat.beq p.1 q.1 && (p.2 == q.2)

def Env.set (T : Env) (d : Nat) (x : Ctx × V) : Env := fun t =>
  match Nat.beq t d with
  | true => some x
  | false => match T t with
    | some y => match hasKey d y.1 with
      | true => none
      | false => some y
    | none => none

def Env.setO (T : Env) (d : Option Tmp) (x : Ctx × V) : Env :=
  match d with
  | some d => T.set d x
  | none => T

def Env.ofL : List (Nat × V) → Env
  | [], _ => none
  | p :: r, t => match Nat.beq t p.1 with
    | true => some ([], p.2)
    | false => Env.ofL r t

def ctxOk (tmps : Array Value) (c : Ctx) : Prop := ∀ p ∈ c, tmps[p.1]? = some (.bool p.2)

def TR (g : Gh) (w : World) (T : Env) (tmps : Array Value) : Prop :=
  ∀ t c x, T t = some (c, x) → (ctxOk tmps c → ∃ v, tmps[t]? = some v ∧ Rep g w x v) ∧ (¬ ctxOk tmps c → tmps[t]? = some undef)

theorem TR.ext {g g' : Gh} {w w' : World} {T : Env} {tmps : Array Value} (h : TR g w T tmps) (e : Ext g w g' w') : TR g' w' T tmps :=
  fun t c x ht => ⟨fun hc => let ⟨v, hv, hr⟩ := (h t c x ht).1 hc; ⟨v, hv, hr.ext e.toExt0⟩, (h t c x ht).2⟩

theorem ctxOk_sub {tmps : Array Value} {c c' : Ctx} (h : subCtx c c' = true) (hc : ctxOk tmps c') : ctxOk tmps c := by
  intro p hp
  have h1 := List.all_eq_true.1 h p hp
  obtain ⟨q, hq, he⟩ := List.any_eq_true.1 h1
  simp at he
  have h2 := hc q hq
  rw [he.1, he.2]
  exact h2

theorem ctxOk_set {tmps : Array Value} {c : Ctx} {d : Nat} {v : Value} (h : hasKey d c = false) : ctxOk (tmps.setIfInBounds d v) c ↔ ctxOk tmps c := by
  induction c with
  | nil => simp [ctxOk]
  | cons p r ih =>
    simp only [hasKey, Bool.or_eq_false_iff] at h
    have ih := ih h.2
    have hne : p.1 ≠ d := by
      intro e; have := h.1; rw [e] at this; simp at this
    simp only [ctxOk, List.mem_cons, forall_eq_or_imp] at ih ⊢
    rw [Array.getElem?_setIfInBounds_ne (Ne.symm hne)]
    constructor
    · exact fun ⟨a, b⟩ => ⟨a, ih.1 b⟩
    · exact fun ⟨a, b⟩ => ⟨a, ih.2 b⟩

/-- A place is written: with a value where the condition holds, with 'undef' elsewhere. -/
theorem TR.set {g : Gh} {w : World} {T : Env} {tmps : Array Value} (h : TR g w T tmps) {d : Nat} (hd : d < tmps.size) {c : Ctx} {x : V} {v : Value}
    (hk : hasKey d c = false) (h1 : ctxOk tmps c → Rep g w x v) (h2 : ¬ ctxOk tmps c → v = undef) : TR g w (T.set d (c, x)) (tmps.setIfInBounds d v) := by
  intro t c' x' ht
  simp only [Env.set] at ht
  split at ht
  · rename_i hb
    have : t = d := Nat.eq_of_beq_eq_true hb
    subst this
    simp at ht
    obtain ⟨rfl, rfl⟩ := ht
    rw [ctxOk_set hk]
    simp only [Array.getElem?_setIfInBounds, hd, if_true]
    exact ⟨fun hc => ⟨v, by simp, h1 hc⟩, fun hc => by simp [h2 hc]⟩
  · rename_i hb
    have hne : d ≠ t := by intro e; subst e; simp at hb
    split at ht
    · rename_i y hy
      split at ht
      · simp at ht
      · rename_i hk'
        simp at ht; subst ht
        rw [ctxOk_set hk', Array.getElem?_setIfInBounds_ne hne]
        exact h t c' x' hy
    · simp at ht

def evalO (T : Env) (ctx : Ctx) : Operand → Option V
  | .tmp t => match T t with
    | some (c, x) => match subCtx c ctx with
      | true => some x
      | false => none
    | none => none
  | .const v => ofConst v
  | .func f => some (.fn (.func f) [] [])
  | .global _ => none

theorem evalO_rep {g : Gh} {w : World} {T : Env} {a : Act} {ctx : Ctx} (h : TR g w T a.tmps) (hc : ctxOk a.tmps ctx) {x : Operand} {y : V} (he : evalO T ctx x = some y) :
    Rep g w y (a.eval x) := by
  cases x with
  | tmp t =>
    simp only [evalO] at he
    split at he
    · rename_i c z hz
      split at he
      · rename_i hs
        simp at he; subst he
        obtain ⟨v, hv, hr⟩ := (h t c z hz).1 (ctxOk_sub hs hc)
        simp [Act.eval, hv, hr]
      · simp at he
    · simp at he
  | const v => exact ofConst_rep he
  | func f => simp [evalO] at he; subst he; exact .fn _ _ _ _ _ rfl rfl (by simp) (by simp)
  | global g => simp [evalO] at he

def evalL (T : Env) (ctx : Ctx) : List Operand → Option (List V)
  | [] => some []
  | x :: r => match evalO T ctx x, evalL T ctx r with
    | some y, some ys => some (y :: ys)
    | _, _ => none

theorem evalL_rep {g : Gh} {w : World} {T : Env} {a : Act} {ctx : Ctx} (h : TR g w T a.tmps) (hc : ctxOk a.tmps ctx) : ∀ {xs : List Operand} {ys : List V}, evalL T ctx xs = some ys →
    ys.length = xs.length ∧ ∀ (i : Nat) x y, ys[i]? = some x → xs[i]? = some y → Rep g w x (a.eval y)
  | [], ys, he => by simp [evalL] at he; subst he; simp
  | o :: r, ys, he => by
    simp only [evalL] at he
    split at he
    · rename_i y zs h1 h2
      simp at he; subst he
      obtain ⟨hl, hg⟩ := evalL_rep h hc h2
      refine ⟨by simp [hl], fun i x y' hx hy => ?_⟩
      cases i with
      | zero => simp at hx hy; subst hx; subst hy; exact evalO_rep h hc h1
      | succ i => simp at hx hy; exact hg i x y' hx hy
    · simp at he

/-! ### The operations -/

def strEq (x y : ByteArray) : Bool := x.toList == y.toList
def strLt (x y : ByteArray) : Bool := Op.bytesLess x.toList y.toList

def bitsI (op : BinOp) (k : IntKind) (x y : Int) : Int :=
  let a := BitVec.ofInt k.bits x
  let b := BitVec.ofInt k.bits y
  match op with
  | .and => k.wrap (a &&& b).toNat
  | .or => k.wrap (a ||| b).toNat
  | .xor => k.wrap (a ^^^ b).toNat
  | _ => k.wrap (a &&& ~~~b).toNat

/-- A byte of a text. -/
def bt (s : ByteArray) (i : Int) : Int := (s.data.getD i.toNat 0).toNat

def pbin (tt : TT) (op : BinOp) (t : TypeId) (x y : V) : Option (List Prop × V) :=
  match x, y with
  | .lit (.int k a), .lit (.int k' b) =>
    match op with
    | .shl => some ([0 ≤ b], .lit (.int k (k.wrap (a * 2 ^ (min b.toNat k.bits)))))
    | .shr => some ([0 ≤ b], .lit (.int k (a.fdiv (2 ^ (min b.toNat k.bits)))))
    | _ =>
    if k = k' then
      match op with
      | .add => some ([], .lit (.int k (k.wrap (a + b))))
      | .sub => some ([], .lit (.int k (k.wrap (a - b))))
      | .mul => some ([], .lit (.int k (k.wrap (a * b))))
      | .quo => some ([b ≠ 0], .lit (.int k (k.wrap (a.tdiv b))))
      | .rem => some ([b ≠ 0], .lit (.int k (a.tmod b)))
      | .and => some ([], .lit (.int k (bitsI .and k a b)))
      | .or => some ([], .lit (.int k (bitsI .or k a b)))
      | .xor => some ([], .lit (.int k (bitsI .xor k a b)))
      | .andNot => some ([], .lit (.int k (bitsI .andNot k a b)))
      | .eql => some ([], .lit (.bool (decide (a = b))))
      | .neq => some ([], .lit (.bool (!decide (a = b))))
      | .lss => some ([], .lit (.bool (decide (a < b))))
      | .leq => some ([], .lit (.bool (decide (a ≤ b))))
      | .gtr => some ([], .lit (.bool (decide (b < a))))
      | .geq => some ([], .lit (.bool (decide (b ≤ a))))
      | _ => none
    else none
  | .lit (.string a), .lit (.string b) =>
    match op with
    | .add => some ([a.size + b.size ≤ 9223372036854775807], .lit (.string (a ++ b)))
    | .eql => some ([], .lit (.bool (strEq a b)))
    | .neq => some ([], .lit (.bool (!strEq a b)))
    | .lss => some ([], .lit (.bool (strLt a b)))
    | .leq => some ([], .lit (.bool (strLt a b || strEq a b)))
    | .gtr => some ([], .lit (.bool (!(strLt a b || strEq a b))))
    | .geq => some ([], .lit (.bool (!strLt a b)))
    | _ => none
  | .lit (.bool a), .lit (.bool b) =>
    match tt t with
    | some ⟨.bool, _, _, _⟩ =>
      match op with
      | .eql => some ([], .lit (.bool (a == b)))
      | .neq => some ([], .lit (.bool (!(a == b))))
      | _ => none
    | _ => none
  | _, _ => none

theorem run_eqGuard_lit {P : Program} {w : World} {op : BinOp} {t : TypeId} {a b : Value} {oa ob : Operand} (ha : plain a = true) (hb : plain b = true) (hn : a ≠ .nilIface ∨ b ≠ .nilIface) :
    (eqGuard op t oa ob a b).run P w = .ok () w := by
  unfold eqGuard
  cases op <;> (try rfl)
  all_goals (cases a <;> (try rfl) <;> cases b <;> first | rfl | (simp [plain] at ha; done) | (simp [plain] at hb; done) | (simp at hn))

theorem run_eq_bool {P : Program} {w : World} {t : TypeId} {a b : Bool} (hu : P.underlying t = some .bool) : (Op.equal t (.bool a) (.bool b)).run P w = .ok (a == b) w := by
  unfold Op.equal Op.maxDepth
  unfold Op.equalIn
  simp only [Sem.run_bind, run_underlying hu, Result.andThen]
  rfl

theorem pbin_int {P : Program} {w : World} {tt : TT} {op : BinOp} {t : TypeId} {k k' : IntKind} {p q : Int} {z : V} {Cs : List Prop}
    (h : pbin tt op t (.lit (.int k p)) (.lit (.int k' q)) = some (Cs, z)) (hC : ∀ c ∈ Cs, c) :
    ∃ v, (binOp op t (.int k p) (.int k' q)).run P w = .ok v w ∧ z = .lit v ∧ plain v = true := by
  unfold pbin at h
  by_cases hs : op = .shl ∨ op = .shr
  · rcases hs with rfl | rfl <;> simp at h <;> obtain ⟨rfl, rfl⟩ := h
    all_goals
      have h0 : ¬ q < 0 := by have := hC (0 ≤ q) (List.mem_cons_self ..); omega
      exact ⟨_, by simp only [binOp, Op.shift, if_neg h0]; rfl, rfl, rfl⟩
  · by_cases hk : k = k'
    · subst hk
      have hkk : ¬ (k ≠ k) := by simp
      cases op <;> simp at h hs <;> obtain ⟨rfl, rfl⟩ := h
      case quo => exact ⟨_, by simp only [binOp, Op.intDiv, if_neg hkk, if_neg (show ¬ q = 0 from hC _ (List.mem_cons_self ..))]; rfl, rfl, rfl⟩
      case rem => exact ⟨_, by simp only [binOp, Op.intDiv, if_neg hkk, if_neg (show ¬ q = 0 from hC _ (List.mem_cons_self ..))]; rfl, rfl, rfl⟩
      all_goals exact ⟨_, by simp only [binOp, if_neg hkk]; first | rfl | (simp only [Op.intCmp]; first | rfl | (simp [pure, Sem.run]; done)), rfl, rfl⟩
    · cases op <;> simp [hk] at h hs

theorem pbin_str {P : Program} {w : World} {tt : TT} {op : BinOp} {t : TypeId} {p q : ByteArray} {z : V} {Cs : List Prop}
    (h : pbin tt op t (.lit (.string p)) (.lit (.string q)) = some (Cs, z)) (hC : ∀ c ∈ Cs, c) :
    ∃ v, (binOp op t (.string p) (.string q)).run P w = .ok v w ∧ z = .lit v ∧ plain v = true := by
  unfold pbin at h
  cases op <;> simp only [reduceCtorEq, Option.some.injEq, Prod.mk.injEq] at h <;> obtain ⟨rfl, rfl⟩ := h
  case add =>
    have hC := hC _ (List.mem_singleton.2 rfl)
    refine ⟨_, ?_, rfl, rfl⟩
    have : ¬ (((p.size + q.size : Nat) : Int) > IntKind.i64.max) := by
      have : IntKind.i64.max = 9223372036854775807 := by rfl
      omega
    simp only [binOp, Op.stringOp, if_neg this]
    rfl
  all_goals exact ⟨_, rfl, rfl, rfl⟩

theorem pbin_bool {P : Program} {tt : TT} (htt : TTok P tt) {w : World} {op : BinOp} {t : TypeId} {p q : Bool} {z : V} {Cs : List Prop}
    (h : pbin tt op t (.lit (.bool p)) (.lit (.bool q)) = some (Cs, z)) :
    ∃ v, (binOp op t (.bool p) (.bool q)).run P w = .ok v w ∧ z = .lit v ∧ plain v = true := by
  unfold pbin at h
  simp only at h
  split at h
  · rename_i ht
    have hu := (htt.facts ht).under
    cases op <;> simp at h <;> obtain ⟨rfl, rfl⟩ := h <;>
      exact ⟨_, by simp only [binOp, Sem.run_bind, run_eq_bool hu, Result.andThen]; rfl, rfl, rfl⟩
  · simp at h

theorem pbin_sound {P : Program} {tt : TT} (htt : TTok P tt) {g : Gh} {w : World} {op : BinOp} {t : TypeId} {x y z : V} {Cs : List Prop} {a b : Value} {oa ob : Operand}
    (hx : Rep g w x a) (hy : Rep g w y b) (h : pbin tt op t x y = some (Cs, z)) (hC : ∀ c ∈ Cs, c) :
    ∃ v, (do eqGuard op t oa ob a b; binOp op t a b : Sem Value).run P w = .ok v w ∧ Rep g w z v := by
  have fin : plain a = true → plain b = true → (a ≠ .nilIface ∨ b ≠ .nilIface) → (∃ v, (binOp op t a b).run P w = .ok v w ∧ z = .lit v ∧ plain v = true) →
      ∃ v, (do eqGuard op t oa ob a b; binOp op t a b : Sem Value).run P w = .ok v w ∧ Rep g w z v := by
    rintro ha hb hn ⟨v, hv, rfl, hp⟩
    refine ⟨v, ?_, .lit v hp⟩
    simp only [Sem.run_bind, run_eqGuard_lit ha hb hn, Result.andThen, hv]
  match x, y, hx, hy, h with
  | .lit (.int k p), .lit (.int k' q), hx, hy, h => cases hx; cases hy; exact fin rfl rfl (.inl (by simp)) (pbin_int h hC)
  | .lit (.string p), .lit (.string q), hx, hy, h => cases hx; cases hy; exact fin rfl rfl (.inl (by simp)) (pbin_str h hC)
  | .lit (.bool p), .lit (.bool q), hx, hy, h => cases hx; cases hy; exact fin rfl rfl (.inl (by simp)) (pbin_bool htt h)

end Go.Abs
