/- The rules as they are used: each premise is reckoned by the kernel. -/
import Derived.Test.YtgeajlnkbfeidaaAbs14
namespace Go.Abs
open Go Go.RowKit

variable {P : Program} {tt : TT} {ro : Option Nat} {N : Nat} {T : Env} {H : Heap} {ds : List Nat} {Q : Exit → Env → Heap → List Nat → Prop}

/-! ### Parts of code -/

def B (f : Func) : Code := f.body.getD .skip

end Go.Abs

namespace Go
def Code.l : Code → Code
  | .seq a _ => a
  | _ => .skip
def Code.r : Code → Code
  | .seq _ b => b
  | _ => .skip
def Code.t : Code → Code
  | .cond _ a _ => a
  | _ => .skip
def Code.e : Code → Code
  | .cond _ _ b => b
  | _ => .skip
def Code.b : Code → Code
  | .block _ c => c
  | .loop c => c
  | .scope c => c
  | .rangeFunc _ _ _ c => c
  | _ => .skip
def Code.asg : Code → Code
  | .rangeFunc _ _ a _ => a
  | _ => .skip
def Code.cnd : Code → Operand
  | .cond c _ _ => c
  | .rangeFunc f _ _ _ => f
  | _ => .tmp 0
def Code.ops : Code → Array Oper
  | .region _ o _ => o
  | _ => #[]
def Code.blk : Code → Nat
  | .block i _ => i
  | .exit i => i
  | _ => 0
/-- The form: 0 skip, 1 seq, 2 cond, 3 block, 4 loop, 5 exit, 6 ret, 7 region, 8 region that draws, 9 range over a function. -/
def Code.kind : Code → Nat
  | .skip => 0
  | .seq _ _ => 1
  | .cond _ _ _ => 2
  | .block _ _ => 3
  | .loop _ => 4
  | .exit _ => 5
  | .ret => 6
  | .region _ _ false => 7
  | .region _ _ true => 8
  | .rangeFunc _ _ _ _ => 9
  | .scope _ => 10
  | _ => 11
end Go

namespace Go.Abs
open Go Go.RowKit

variable {P : Program} {tt : TT} {ro : Option Nat} {N : Nat} {T : Env} {H : Heap} {ds : List Nat} {Q : Exit → Env → Heap → List Nat → Prop}

theorem C_seq {c : Code} (hk : c.kind = 1) (h : AWP P ro N c.l T H ds (thenA (fun T H ds => AWP P ro N c.r T H ds Q) Q)) : AWP P ro N c T H ds Q := by
  cases c with
  | seq a b => exact A_seq h
  | region i o d => cases d <;> simp [Code.kind] at hk
  | _ => simp [Code.kind] at hk

theorem C_skip {c : Code} (hk : c.kind = 0) (h : Q .normal T H ds) : AWP P ro N c T H ds Q := by
  cases c with
  | skip => exact A_skip h
  | region i o d => cases d <;> simp [Code.kind] at hk
  | _ => simp [Code.kind] at hk

theorem C_ret {c : Code} (hk : c.kind = 6) (h : Q .ret T H ds) : AWP P ro N c T H ds Q := by
  cases c with
  | ret => exact A_ret h
  | region i o d => cases d <;> simp [Code.kind] at hk
  | _ => simp [Code.kind] at hk

theorem C_exit {c : Code} {id : Nat} (hk : c.kind = 5) (hi : c.blk = id) (h : Q (.exit id) T H ds) : AWP P ro N c T H ds Q := by
  cases c with
  | exit i => subst hi; exact A_exit h
  | region i o d => cases d <;> simp [Code.kind] at hk
  | _ => simp [Code.kind] at hk

theorem C_block {c : Code} {id : Nat} (hk : c.kind = 3) (hi : c.blk = id) (h : AWP P ro N c.b T H ds (blockA id Q)) : AWP P ro N c T H ds Q := by
  cases c with
  | block i c => subst hi; exact A_block h
  | region i o d => cases d <;> simp [Code.kind] at hk
  | _ => simp [Code.kind] at hk

theorem C_cond {c : Code} {b : Bool} (hk : c.kind = 2) (hc : evalO T [] c.cnd = some (.lit (.bool b))) (h1 : b = true → AWP P ro N c.t T H ds Q) (h2 : b = false → AWP P ro N c.e T H ds Q) : AWP P ro N c T H ds Q := by
  cases c with
  | cond c x y => exact A_cond hc h1 h2
  | region i o d => cases d <;> simp [Code.kind] at hk
  | _ => simp [Code.kind] at hk

theorem C_loop {c : Code} (hk : c.kind = 4) (I : Nat → Env → Heap → List Nat → Prop) {k : Nat} (h0 : I k T H ds)
    (round : ∀ k T H ds, I k T H ds → AWP P ro N c.b T H ds (thenA (fun T' H' ds' => ∃ k', k' < k ∧ I k' T' H' ds') Q)) : AWP P ro N c T H ds Q := by
  cases c with
  | loop c => exact A_loop I h0 round
  | region i o d => cases d <;> simp [Code.kind] at hk
  | _ => simp [Code.kind] at hk

def fromTo (i n : Nat) : List Nat := List.range' i (n - i)

theorem C_region (htt : TTok P tt) {c : Code} {n : Nat} (hk : c.kind = 7) (hn : c.ops.size = n) (h : RWs P tt N c.ops (fromTo 0 n) T H (fun T' H' => Q .normal T' H' ds)) : AWP P ro N c T H ds Q := by
  cases c with
  | region id ops draw =>
    cases draw with
    | false =>
      refine A_region htt ?_
      simp only [Code.ops] at hn h
      rw [hn, List.range_eq_range']
      exact h
    | true => simp [Code.kind] at hk
  | _ => simp [Code.kind] at hk

/-! ### What follows -/

theorem thenA_normal {next : Env → Heap → List Nat → Prop} (h : next T H ds) : thenA next Q .normal T H ds := h
theorem thenA_ret {next : Env → Heap → List Nat → Prop} (h : Q .ret T H ds) : thenA next Q .ret T H ds := h
theorem thenA_exit {next : Env → Heap → List Nat → Prop} {id : Nat} (h : Q (.exit id) T H ds) : thenA next Q (.exit id) T H ds := h
theorem blockA_normal {id : Nat} (h : Q .normal T H ds) : blockA id Q .normal T H ds := h
theorem blockA_ret {id : Nat} (h : Q .ret T H ds) : blockA id Q .ret T H ds := h
theorem blockA_hit {id : Nat} (h : Q .normal T H ds) : blockA id Q (.exit id) T H ds := by
  simp only [blockA]
  have : Nat.beq id id = true := Nat.beq_refl id
  rw [this]
  exact h
theorem blockA_miss {id id' : Nat} (hne : Nat.beq id' id = false) (h : Q (.exit id') T H ds) : blockA id Q (.exit id') T H ds := by
  simp only [blockA]
  rw [hne]
  exact h

theorem ofL_sub : ∀ {l : List (Nat × V)}, l.map (fun p => T p.1) = l.map (fun p => some ([], p.2)) → SubE (Env.ofL l) T
  | [], _ => fun t x ht => by simp [Env.ofL] at ht
  | p :: r, h => by
    simp only [List.map_cons, List.cons.injEq] at h
    intro t x ht
    simp only [Env.ofL] at ht
    split at ht
    · rename_i hb
      have : t = p.1 := Nat.eq_of_beq_eq_true hb
      subst this
      rw [h.1]; exact ht
    · exact ofL_sub h.2 t x ht

/-- On with what is kept. -/
theorem C_keep {c : Code} (l : List (Nat × V)) (h : l.map (fun p => T p.1) = l.map (fun p => some ([], p.2))) (next : AWP P ro N c (Env.ofL l) H ds Q) : AWP P ro N c T H ds Q :=
  A_weak (ofL_sub h) next

/-! ### Regions -/

def guardC (T : Env) (ctx : Ctx) (Cs : List Prop) : List Prop :=
  match ctx with
  | [] => Cs
  | _ => Cs.map fun c => gB T ctx = true → c

theorem guardC_spec {ctx : Ctx} {Cs : List Prop} (h : allP (guardC T ctx Cs)) : gB T ctx = true → allP Cs := by
  intro hb
  unfold guardC at h
  split at h
  · exact h
  · induction Cs with
    | nil => trivial
    | cons c r ih => exact ⟨h.1 hb, ih h.2⟩

/-- The conditions of operations that compute. -/
def runC (tt : TT) (N : Nat) (ops : Array Oper) : List Nat → Env → Option (List Prop)
  | [], _ => some []
  | i :: is, T => match ops[i]? with
    | none => none
    | some o => match ctxOf ops T o with
      | none => none
      | some ctx => match dstOk N o ctx, pureOp tt T ctx o.op with
        | true, some (Cs, x) => match runC tt N ops is (T.setO o.dst (ctx, x)) with
          | some Ds => some (guardC T ctx Cs ++ Ds)
          | none => none
        | _, _ => none

/-- The places behind them. -/
def runE (tt : TT) (ops : Array Oper) : List Nat → Env → Env
  | [], T => T
  | i :: is, T => match ops[i]? with
    | none => T
    | some o => match ctxOf ops T o with
      | none => T
      | some ctx => match pureOp tt T ctx o.op with
        | some (_, x) => runE tt ops is (T.setO o.dst (ctx, x))
        | none => T

theorem RWs_run {ops : Array Oper} {K : Env → Heap → Prop} : ∀ {is js : List Nat} {T : Env} {Ds : List Prop}, runC tt N ops is T = some Ds → allP Ds → RWs P tt N ops js (runE tt ops is T) H K → RWs P tt N ops (is ++ js) T H K
  | [], js, T, Ds, _, _, h => h
  | i :: is, js, T, Ds, hc, hD, h => by
    simp only [runC] at hc
    simp only [runE] at h
    split at hc
    · simp at hc
    · rename_i o ho
      simp only [ho] at h
      split at hc
      · simp at hc
      · rename_i ctx hctx
        simp only [hctx] at h
        split at hc
        · rename_i Cs x hd hp
          simp only [hp] at h
          split at hc
          · rename_i Ds' hDs
            simp at hc; subst hc
            obtain ⟨d1, d2⟩ := allP_append.1 hD
            exact ⟨T, _, Ghost.refl _ _ _, o, ctx, ho, hctx, hd, .inl ⟨Cs, x, hp, guardC_spec d1, RWs_run hDs d2 h⟩⟩
          · simp at hc
        · simp at hc

section rules
variable {ops : Array Oper} {K : Env → Heap → Prop} {i n : Nat}

theorem R_pure (j : Nat) (hs : fromTo i n = fromTo i j ++ fromTo j n) {Ds : List Prop} (hc : runC tt N ops (fromTo i j) T = some Ds) (hD : allP Ds)
    (h : RWs P tt N ops (fromTo j n) (runE tt ops (fromTo i j) T) H K) : RWs P tt N ops (fromTo i n) T H K := by
  rw [hs]; exact RWs_run hc hD h

theorem R_end (hs : fromTo i n = []) (h : K T H) : RWs P tt N ops (fromTo i n) T H K := by rw [hs]; exact h

/-- All of a region computes. -/
theorem R_all {Ds : List Prop} (hc : runC tt N ops (fromTo i n) T = some Ds) (hD : allP Ds) (h : K (runE tt ops (fromTo i n) T) H) : RWs P tt N ops (fromTo i n) T H K := by
  have := RWs_run (P := P) (js := []) (H := H) (K := K) hc hD h
  rwa [List.append_nil] at this

def dstAt (ops : Array Oper) (i : Nat) : Option Tmp := match ops[i]? with
  | some o => o.dst
  | none => none

/-- An operation that is always carried out, by its number. -/
def plainAt (N : Nat) (ops : Array Oper) (i : Nat) : Option Op := match ops[i]? with
  | some o => match o.guard, dstOk N o [] with
    | none, true => some o.op
    | _, _ => none
  | none => none

theorem plainAt_spec {op : Op} (h : plainAt N ops i = some op) : ∃ o, ops[i]? = some o ∧ o.op = op ∧ ctxOf ops T o = some [] ∧ dstOk N o [] = true ∧ dstAt ops i = o.dst := by
  unfold plainAt at h
  split at h
  · rename_i o ho
    split at h
    · rename_i hg hd
      simp at h
      exact ⟨o, ho, h, by simp [ctxOf, hg], hd, by simp [dstAt, ho]⟩
    · simp at h
  · simp at h

theorem R_eff {op : Op} (hs : fromTo i n = i :: fromTo (i + 1) n) (hp : plainAt N ops i = some op) (h : effW P tt T [] op H (fun x H' => RWs P tt N ops (fromTo (i + 1) n) (T.setO (dstAt ops i) ([], x)) H' K)) :
    RWs P tt N ops (fromTo i n) T H K := by
  rw [hs]
  obtain ⟨o, ho, rfl, hctx, hd, hdst⟩ := plainAt_spec (T := T) hp
  rw [hdst] at h
  exact ⟨T, H, Ghost.refl _ _ _, o, [], ho, hctx, hd, .inr ⟨fun _ => h, fun h => by simp [gB] at h⟩⟩

/-- A call, by its number: the function, and its arguments. -/
def decCall (N : Nat) (ops : Array Oper) (T : Env) (i : Nat) : Option (Nat × List V) := match plainAt N ops i with
  | some (.call ⟨.value f, args, _⟩) => match evalO T [] f, evalL T [] args.toList with
    | some (.fn (.func fid) ys cs), some xs => some (fid, ys ++ xs ++ cs)
    | _, _ => none
  | _ => none

theorem R_call {fid : Nat} {as : List V} (hs : fromTo i n = i :: fromTo (i + 1) n) (hd : decCall N ops T i = some (fid, as)) {Q : V → Heap → Prop} (hc : ACall P fid as H Q)
    (h : ∀ r H', Q r H' → RWs P tt N ops (fromTo (i + 1) n) (T.setO (dstAt ops i) ([], r)) H' K) : RWs P tt N ops (fromTo i n) T H K := by
  unfold decCall at hd
  split at hd
  · rename_i f args tys hp
    split at hd
    · rename_i ys cs xs hf hx
      simp at hd; obtain ⟨rfl, rfl⟩ := hd
      refine R_eff hs hp ?_
      refine ⟨_, xs, ys, cs, hf, hx, ?_⟩
      simpa using hc.mono h
    · simp at hd
  · simp at hd

def decApp (tt : TT) (N : Nat) (ops : Array Oper) (T : Env) (i : Nat) : Option (V × V × TyE) := match plainAt N ops i with
  | some (.call ⟨.builtin .append, args, tys⟩) => match evalL T [] args.toList, tys[0]?, tys[1]?, tys[2]? with
    | some [s, x], some t, some t', none => match tt t, tt t' with
      | some ⟨.slice e, _, _, _⟩, some ⟨.slice _, _, _, _⟩ => match tt e with
        | some te => match szOk te.zero te.size with
          | true => some (s, x, te)
          | false => none
        | none => none
      | _, _ => none
    | _, _, _, _ => none
  | _ => none

theorem two_of {tys : Array TypeId} {t t' : TypeId} (h0 : tys[0]? = some t) (h1 : tys[1]? = some t') (h2 : tys[2]? = none) : tys = #[t, t'] := by
  have hs : tys.size = 2 := by
    have := (Array.getElem?_eq_some_iff.1 h1).1
    have := Array.getElem?_eq_none_iff.1 h2
    omega
  obtain ⟨l⟩ := tys
  match l, hs with
  | [a, b], _ => simp at h0 h1; subst h0; subst h1; rfl

theorem R_append {s x : V} {te : TyE} {es ys : List V} (hs : fromTo i n = i :: fromTo (i + 1) n) (hd : decApp tt N ops T i = some (s, x, te)) (he : appS te.size H s = some es) (hy : appX te.size H x = some ys)
    (hb : (es.length + ys.length) * te.bytes ≤ 140737488355328) (h63 : es.length + ys.length ≤ 9223372036854775807)
    (h : RWs P tt N ops (fromTo (i + 1) n) (T.setO (dstAt ops i) ([], .msl te.size H.length 0 (es.length + ys.length))) (appH te.size H s (es ++ ys)) K) : RWs P tt N ops (fromTo i n) T H K := by
  unfold decApp at hd
  split at hd
  · rename_i args tys hp
    split at hd
    · rename_i s' x' t t' hev h0 h1 h2
      split at hd
      · rename_i e _ _ _ e' _ _ _ ht ht'
        split at hd
        · rename_i te' hte
          split at hd
          · rename_i hz
            simp at hd; obtain ⟨rfl, rfl, rfl⟩ := hd
            refine R_eff hs hp ?_
            exact ⟨_, _, t, t', e, e', _, es, ys, hev, two_of h0 h1 h2, ⟨_, _, _, ht⟩, ⟨_, _, _, ht'⟩, hte, hz, he, hy, hb, h63, h⟩
          · simp at hd
        · simp at hd
      · simp at hd
    · simp at hd
  · simp at hd

/-- A slice literal, frozen. -/
def decBsl (tt : TT) (N : Nat) (ops : Array Oper) (T : Env) (i : Nat) : Option (List V × Nat) := match plainAt N ops i with
  | some (.buildSlice t k parts) => match bslOp tt T [] (.buildSlice t k parts), tt t with
    | some xs, some ⟨.slice e, _, _, _⟩ => match tt e with
      | some te => some (xs, te.size)
      | none => none
    | _, _ => none
  | _ => none

theorem R_bsl {xs : List V} {k : Nat} (hs : fromTo i n = i :: fromTo (i + 1) n) (hd : decBsl tt N ops T i = some (xs, k))
    (h : RWs P tt N ops (fromTo (i + 1) n) (T.setO (dstAt ops i) ([], frozenOf xs)) H K) : RWs P tt N ops (fromTo i n) T H K := by
  unfold decBsl at hd
  split at hd
  · rename_i t k' parts hp
    split at hd
    · rename_i ys e _ _ _ hb ht
      split at hd
      · rename_i te hte
        simp at hd; obtain ⟨rfl, rfl⟩ := hd
        refine R_eff hs hp ?_
        exact ⟨_, hb, .inl h⟩
      · simp at hd
    · simp at hd
  · simp at hd

theorem R_bslm {xs : List V} {k : Nat} (hs : fromTo i n = i :: fromTo (i + 1) n) (hd : decBsl tt N ops T i = some (xs, k))
    (h : RWs P tt N ops (fromTo (i + 1) n) (T.setO (dstAt ops i) ([], .msl k H.length 0 xs.length)) (H ++ [.vec k xs]) K) : RWs P tt N ops (fromTo i n) T H K := by
  unfold decBsl at hd
  split at hd
  · rename_i t k' parts hp
    split at hd
    · rename_i ys e _ _ _ hb ht
      split at hd
      · rename_i te hte
        simp at hd; obtain ⟨rfl, rfl⟩ := hd
        refine R_eff hs hp ?_
        exact ⟨_, hb, .inr ⟨e, te, _, _, _, ht, hte, h⟩⟩
      · simp at hd
    · simp at hd
  · simp at hd

end rules

/-! ### A function -/

def resL (T : Env) : List ResultVar → Option (List V)
  | [] => some []
  | .tmp t :: r => match T t, resL T r with
    | some ([], x), some xs => some (x :: xs)
    | _, _ => none
  | .cell _ _ :: _ => none

/-- What a function hands back. -/
def resV (fn : Func) (T : Env) : Option V := match resL T fn.results.toList with
  | some [x] => some x
  | some xs => some (.tup xs)
  | none => none

theorem resL_rep {g : Gh} {w : World} {tmps : Array Value} (h : TR g w T tmps) : ∀ {rs : List ResultVar} {xs : List V}, resL T rs = some xs →
    ∃ vs : List Value, (rs.mapM fun | .tmp t => pure (tmps.getD t undef) | .cell a t => do loadVar t (← asAddr (tmps.getD a undef)) : Sem (List Value)).run P w = .ok vs w ∧ xs.length = vs.length ∧
      ∀ (i : Nat) x y, xs[i]? = some x → vs[i]? = some y → Rep g w x y
  | [], xs, he => by simp [resL] at he; subst he; exact ⟨[], rfl, rfl, by simp⟩
  | .tmp t :: r, xs, he => by
    simp only [resL] at he
    split at he
    · rename_i x ys ht hr
      simp at he; subst he
      obtain ⟨v, hv, hrep⟩ := (h t [] x ht).1 (by simp [ctxOk])
      obtain ⟨vs, h1, h2, h3⟩ := resL_rep h hr
      refine ⟨v :: vs, ?_, by simp [h2], fun i a b ha hb => ?_⟩
      · simp only [List.mapM_cons, Sem.run_bind, Sem.run_pure, Result.andThen, h1]
        simp [hv]
      · cases i with
        | zero => simp at ha hb; subst ha; subst hb; exact hrep
        | succ i => simp at ha hb; exact h3 i a b ha hb
    · simp at he
  | .cell a t :: r, xs, he => by simp [resL] at he

theorem resV_rep {g : Gh} {w : World} {tmps : Array Value} {fn : Func} (h : TR g w T tmps) {x : V} (hx : resV fn T = some x) : ∃ v, (results fn tmps).run P w = .ok v w ∧ Rep g w x v := by
  unfold resV at hx
  have main : ∀ {xs : List V}, resL T fn.results.toList = some xs → ∃ vs : List Value, xs.length = vs.length ∧ (∀ (i : Nat) x y, xs[i]? = some x → vs[i]? = some y → Rep g w x y) ∧
      (results fn tmps).run P w = .ok (if h : vs.toArray.size = 1 then vs.toArray[0] else .tuple vs.toArray) w := by
    intro xs hxs
    obtain ⟨vs, h1, h2, h3⟩ := resL_rep (P := P) h hxs
    refine ⟨vs, h2, h3, ?_⟩
    unfold results
    rw [Array.mapM_eq_mapM_toList]
    refine (Sem.run_bind ..).trans ?_
    have : Sem.run P (List.toArray <$> (fn.results.toList.mapM fun | .tmp t => pure (tmps.getD t undef) | .cell a t => do loadVar t (← asAddr (tmps.getD a undef)) : Sem (List Value))) w = .ok vs.toArray w := by
      change Sem.run P ((fn.results.toList.mapM fun | .tmp t => pure (tmps.getD t undef) | .cell a t => do loadVar t (← asAddr (tmps.getD a undef)) : Sem (List Value)).bind fun x => Sem.pure x.toArray) w = _
      exact (Sem.run_bind ..).trans (by rw [h1]; rfl)
    exact (congrArg (fun r => Result.andThen r (fun (a : Array Value) w' => Sem.run P (pure (if h : a.size = 1 then a[0] else Value.tuple a)) w')) this).trans rfl
  split at hx
  · rename_i y hy
    simp at hx; subst hx
    obtain ⟨vs, h1, h2, h3⟩ := main hy
    match vs, h1 with
    | [v], _ => exact ⟨v, h3, h2 0 _ _ rfl rfl⟩
  · rename_i xs hne hxs
    simp at hx; subst hx
    obtain ⟨vs, h1, h2, h3⟩ := main hxs
    have hs : ¬ vs.toArray.size = 1 := by
      intro h0
      simp at h0
      match xs, h1.trans h0 with
      | [y], _ => exact hne y rfl
    rw [dif_neg hs] at h3
    exact ⟨_, h3, .tup _ _ (by simpa using h1) (fun i a b ha hb => h2 i a b ha (by simpa using hb))⟩
  · simp at hx

/-- What a function's body must come to. -/
def retQ (fn : Func) (Q : V → Heap → Prop) : Exit → Env → Heap → List Nat → Prop
  | .normal, T, H, ds => ds = [] ∧ ∃ x, resV fn T = some x ∧ Q x H
  | .ret, T, H, ds => ds = [] ∧ ∃ x, resV fn T = some x ∧ Q x H
  | _, _, _, _ => False

def params : Nat → List V → List (Nat × V)
  | _, [] => []
  | i, x :: r => (i, x) :: params (i + 1) r

theorem params_tr {g : Gh} {w : World} {tmps : Array Value} : ∀ {l : List V} {i : Nat}, (∀ (j : Nat) x, l[j]? = some x → ∃ v, tmps[i + j]? = some v ∧ Rep g w x v) → TR g w (Env.ofL (params i l)) tmps
  | [], i, _ => fun t c x ht => by simp [params, Env.ofL] at ht
  | y :: r, i, h => by
    intro t c x ht
    simp only [params, Env.ofL] at ht
    split at ht
    · rename_i hb
      have : t = i := Nat.eq_of_beq_eq_true hb
      subst this
      simp at ht; obtain ⟨rfl, rfl⟩ := ht
      exact ⟨fun _ => by simpa using h 0 y rfl, fun hn => absurd (by simp [ctxOk]) hn⟩
    · exact params_tr (l := r) (i := i + 1) (fun j x hx => by
        have := h (j + 1) x (by simpa using hx)
        rwa [show i + (j + 1) = i + 1 + j by omega] at this) t c x ht

/-- **A function's contract, of its body's walk.** -/
theorem F_enter {f : Nat} {fn : Func} {args : List V} {Q : V → Heap → Prop} (hf : P.funcs[f]? = some fn) (hb : fn.body.isSome = true) (hname : (fn.name == "runtime.NumGoroutine") = false) (hN0 : Nat.ble args.length fn.ntmps = true)
    (h : AWP P none fn.ntmps (B fn) (Env.ofL (params 0 args)) H [] (retQ fn Q)) : ACall P f args H Q := by
  have hN : args.length ≤ fn.ntmps := Nat.le_of_ble_eq_true hN0
  obtain ⟨c, hc⟩ := Option.isSome_iff_exists.1 hb
  refine ⟨fun as w => ?_, fun g w vs hs hl hr => ?_⟩
  · simp only [callFunc, Sem.run_bind, program, Sem.run, Result.andThen, hf]
    simp [hname, hc]
  · refine (callsIn_wide (n := 0)).1 (callsIn_of_wp (F := Fence.wide) hf hc trivial ?_)
    rw [show B fn = c by simp [B, hc]] at h
    refine h g w _ _ ⟨hs, ?_, rfl, by simp, ?_⟩ ?_
    · refine params_tr fun j x hx => ?_
      have hj : j < vs.size := by rw [← hl]; exact (List.getElem?_eq_some_iff.1 hx).1
      refine ⟨vs[j], ?_, hr j x _ hx (Array.getElem?_eq_getElem hj)⟩
      simp only [Nat.zero_add]
      rw [Array.getElem?_append_left hj]
      exact Array.getElem?_eq_getElem hj
    · simp; omega
    · intro e T' H' ds' g' w' a' hq hg hx
      have fin : ds' = [] → (∃ x, resV fn T' = some x ∧ Q x H') → a'.defers = [] ∧ ∃ v, (results fn a'.tmps).run P w' = .ok v w' ∧ ∃ v2 r g2 H2, Ending.returned v = Ending.returned v2 ∧ Rep g2 w' r v2 ∧ SR g2 w' H2 ∧ Ext g w g2 w' ∧ Q r H2 := by
        rintro rfl ⟨x, hx1, hx2⟩
        obtain ⟨v, hv, hrep⟩ := resV_rep (P := P) hg.tr hx1
        exact ⟨by rw [hg.df]; rfl, v, hv, v, x, g', H', rfl, hrep, hg.sr, hx, hx2⟩
      cases e with
      | normal => exact fin hq.1 hq.2
      | ret => exact fin hq.1 hq.2
      | _ => exact hq.elim

end Go.Abs
