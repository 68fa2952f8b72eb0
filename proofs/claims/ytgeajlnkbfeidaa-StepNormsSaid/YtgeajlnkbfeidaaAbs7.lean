/- The operations that only compute: the machine makes the same: the whole. -/
import Derived.Test.YtgeajlnkbfeidaaAbs6
import Derived.Laws.StructEq
namespace Go.Abs
open Go Go.RowKit

variable {P : Program} {tt : TT} {g : Gh} {w : World}

theorem eqFs_sound (htt : TTok P tt) {f : TypeId → V → V → Option Bool} {D : Nat} (hf : ∀ t x y r va vb, f t x y = some r → Rep g w x va → Rep g w y vb → (Op.equalIn D t va vb).run P w = .ok r w) {xs ys : List V} {as bs : Array Value} (ha : RepL g w xs as) (hb : RepL g w ys bs) :
    ∀ {fs : List Field} {r : Bool}, eqFs f tt xs ys fs = some r → (Op.eqFields D as bs fs).run P w = .ok r w
  | [], r, h => by simp [eqFs] at h; subst h; rfl
  | fd :: fs, r, h => by
    simp only [eqFs] at h
    split at h
    · cases h
    · rename_i hn
      have hn' : fd.name ≠ "_" := by intro e; rw [e] at hn; simp at hn
      split at h
      · rename_i x y hx hy
        split at h
        · rename_i p q hp hq
          simp at h; subst h
          obtain ⟨u, h1, h2, _⟩ := partV_sound htt hx ha
          obtain ⟨v, h3, h4, _⟩ := partV_sound htt hy hb
          have h5 := hf _ _ _ _ _ _ hp h2 h4
          have h6 := eqFs_sound htt hf ha hb hq
          simp only [Op.eqFields, ne_eq, hn', not_false_eq_true, if_true, Sem.run_bind, h1, h3, h5, Result.andThen_ok]
          cases p
          · simp
          · simpa using h6
        · cases h
      · cases h

theorem eqV_sound (htt : TTok P tt) : ∀ (d D : Nat) (t : TypeId) (x y : V) (r : Bool) (va vb : Value), eqV tt d t x y = some r → Rep g w x va → Rep g w y vb → (Op.equalIn (d + D) t va vb).run P w = .ok r w
  | 0, D, t, x, y, r, va, vb, h, _, _ => by simp [eqV] at h
  | d + 1, D, t, x, y, r, va, vb, h, hx, hy => by
    rw [show d + 1 + D = (d + D) + 1 by omega]
    unfold eqV at h
    split at h
    · cases h
    · rename_i k a k' b
      split at h
      · rename_i k2 q1 q2 q3 ht
        split at h
        · rename_i hk
          subst hk
          simp at h; subst h
          cases hx; cases hy
          have hu := (htt.facts ht).under
          rw [run_equalIn_int _ _ _ _ k2 _ _ hu]
          congr 1
        · cases h
      · cases h
    · rename_i a b
      split at h
      · rename_i q1 q2 q3 ht
        simp at h; subst h
        cases hx; cases hy
        have hu := (htt.facts ht).under
        rw [run_equalIn_string _ _ _ _ _ hu]
        rfl
      · cases h
    · rename_i a b
      split at h
      · rename_i q1 q2 q3 ht
        simp at h; subst h
        cases hx; cases hy
        have hu := (htt.facts ht).under
        rw [run_equalIn_bool _ _ _ _ _ hu]
      · cases h
    · rename_i d' xs ys heq
      obtain rfl : d = d' := Nat.succ.inj heq
      split at h
      · rename_i fs q1 q2 q3 ht he
        obtain ⟨as, rfl, a1, a2, a3⟩ := hx.aggL
        obtain ⟨bs, rfl, b1, b2, b3⟩ := hy.aggL
        have hu := (htt.facts ht).under
        have hok := htt.2 _ he
        simp only [eqOk, Bool.and_eq_true, Bool.not_eq_true'] at hok
        have hfs : ∀ t', P.underlying t' = some (.struct fs) → P.fieldsOf t' = fs := fun t' h => by simp [Program.fieldsOf, h]
        have hf := hfs _ hu
        rw [run_equalIn_struct w (d + D) _ as bs (by rw [hf]; exact hu) hok.1, hf]
        exact eqFs_sound htt (fun t x y r va vb h hx hy => eqV_sound htt d D t x y r va vb h hx hy) ⟨a1, a2, a3⟩ ⟨b1, b2, b3⟩ h
      · cases h
    · cases h

theorem pbin2_sound (htt : TTok P tt) {op : BinOp} {t : TypeId} {x y z : V} {Cs : List Prop} {a b : Value} {oa ob : Operand}
    (hx : Rep g w x a) (hy : Rep g w y b) (h : pbin2 tt op t x y = some (Cs, z)) (hC : ∀ c ∈ Cs, c) :
    ∃ v, (do eqGuard op t oa ob a b; binOp op t a b : Sem Value).run P w = .ok v w ∧ Rep g w z v := by
  unfold pbin2 at h
  split at h
  · rename_i xs ys
    have key : ∀ r, eqV tt 8 t (.agg xs) (.agg ys) = some r → ∃ as bs, a = .agg as ∧ b = .agg bs ∧ (Op.equalIn 10000 t (.agg as) (.agg bs)).run P w = .ok r w ∧ P.eqGuardType P.depth t = false := by
      intro r hr
      have h1 := eqV_sound htt 8 9992 t _ _ r a b hr hx hy
      obtain ⟨as, rfl, _⟩ := hx.aggL
      obtain ⟨bs, rfl, _⟩ := hy.aggL
      refine ⟨as, bs, rfl, rfl, h1, ?_⟩
      unfold eqV at hr
      simp only at hr
      split at hr
      · rename_i he
        have hok := htt.2 t he
        simp only [eqOk, Bool.and_eq_true, Bool.not_eq_true'] at hok
        exact hok.2
      · cases hr
    split at h
    · rename_i r hr
      simp at h; obtain ⟨rfl, rfl⟩ := h
      obtain ⟨as, bs, rfl, rfl, h1, h2⟩ := key r hr
      refine ⟨.bool r, ?_, .lit _ rfl⟩
      simp only [Sem.run_bind, run_eqGuard_agg w _ t oa ob as bs h2, Result.andThen_ok, run_eql_struct, h1]
    · rename_i r hr
      simp at h; obtain ⟨rfl, rfl⟩ := h
      obtain ⟨as, bs, rfl, rfl, h1, h2⟩ := key r hr
      refine ⟨.bool (!r), ?_, .lit _ rfl⟩
      simp only [Sem.run_bind, run_eqGuard_agg w _ t oa ob as bs h2, Result.andThen_ok, run_neq_struct, h1]
    · cases h
  · exact pbin_sound htt hx hy h hC

theorem sound_build (htt : TTok P tt) {T : Env} {a : Act} {ctx : Ctx} (htr : TR g w T a.tmps) (hc : ctxOk a.tmps ctx) {t : TypeId} {parts : Array (Nat × Operand)} {Cs : List Prop} {z : V}
    (h : pureOp tt T ctx (.build t parts) = some (Cs, z)) : ∃ v, (Instr.build t (parts.map fun (i, x) => (i, a.eval x))).run P w = .ok v w ∧ Rep g w z v := by
  simp only [pureOp] at h
  split at h
  · rename_i fs _ _ zs ps ht hps
    split at h
    · rename_i hall
      simp only [Bool.and_eq_true] at hall
      split at h
      · rename_i cs hfill
        simp at h; obtain ⟨rfl, rfl⟩ := h
        have f := htt.facts ht
        obtain ⟨⟨i, hi, hs, hb, zv, hz, hzv⟩, hu⟩ := f
        have hzr : Rep g w (.agg zs) zv := ofConst_rep hzv
        obtain ⟨vs, rfl, hr⟩ := hzr.aggL
        obtain ⟨pl, hpl, hplg⟩ := mapM_places (P := P) htt (fun j fd hj => allTy_get hall.1 j fd (by simpa using hj)) w
        obtain ⟨hl, hg⟩ := evalP_sound htr hc hps
        obtain ⟨rs, hf, hrr⟩ := fillV_sound (g := g) (w := w) hplg (qs := (parts.map fun (i, x) => (i, a.eval x)).toList) hfill hr (by simpa using hl) (fun j p q hp hq => by
          simp only [Array.toList_map, List.getElem?_map, Option.map_eq_some_iff] at hq
          obtain ⟨r, hr1, rfl⟩ := hq
          obtain ⟨h1, h2⟩ := hg j p r hp hr1
          exact ⟨h1, h2, allNT_get hall.2 j p hp⟩)
        refine ⟨.agg rs, ?_, hrr.rep⟩
        have hzv' : (zeroValue t).run P w = .ok (.agg vs) w := by simp [zeroValue, typeInfo, hi, hz]
        have hf' : Instr.fill (fun x => pl[x]?) vs (parts.map fun (i, x) => (i, a.eval x)).toList = some rs := hf
        simp only [Instr.build, Sem.run_bind, hzv', Result.andThen, run_underlying hu, Value.cells]
        rw [hpl]
        simp only []
        rw [hf']
        rfl
      · simp at h
    · simp at h
  · simp at h

theorem evalL_array {T : Env} {a : Act} {ctx : Ctx} (htr : TR g w T a.tmps) (hc : ctxOk a.tmps ctx) {xs : Array Operand} {ys : List V} (he : evalL T ctx xs.toList = some ys) :
    ys.length = (xs.map a.eval).size ∧ ∀ (i : Nat) x y, ys[i]? = some x → (xs.map a.eval)[i]? = some y → Rep g w x y := by
  obtain ⟨hl, hg⟩ := evalL_rep htr hc he
  refine ⟨by simpa using hl, fun i x y hx hy => ?_⟩
  simp only [Array.getElem?_map, Option.map_eq_some_iff] at hy
  obtain ⟨o, ho, rfl⟩ := hy
  exact hg i x o hx (by simpa using ho)

theorem run_index_str (htt : TTok P tt) {t : TypeId} {e : TyE} (ht : tt t = some e) (hd : e.d = .string) {s : ByteArray} {k : IntKind} {j : Int} (h : 0 ≤ j ∧ j < (s.size : Int)) :
    (Instr.index t (.string s) (.int k j)).run P w = .ok (.int .u8 (bt s j)) w := by
  have hu := (htt.facts ht).under
  rw [hd] at hu
  have hlt : j.toNat < s.size := by omega
  simp only [Instr.index, Sem.run_bind, asIntOf_run, Result.andThen, run_underlying hu, if_pos h.1]
  have h1 : s[j.toNat]? = some s[j.toNat] := by
    simp [hlt]
  rw [h1]
  have h2 : bt s j = ((s[j.toNat]).toNat : Int) := by
    unfold bt
    have : s.data.getD j.toNat 0 = s[j.toNat] := by
      have hd : j.toNat < s.data.size := hlt
      simp only [Array.getD, hd, dif_pos]
      rfl
    rw [this]
  rw [h2]
  rfl

theorem sound_len (htt : TTok P tt) {T : Env} {a : Act} {ctx : Ctx} (htr : TR g w T a.tmps) (hc : ctxOk a.tmps ctx) {args : Array Operand} {argTypes : Array TypeId} {ty : TypeId} {Cs : List Prop} {z : V}
    (h : pureOp tt T ctx (.call { callee := .builtin .len, args, argTypes }) = some (Cs, z)) : ∃ v, (Builtin.len_ argTypes ty (args.map a.eval)).run P w = .ok v w ∧ Rep g w z v := by
  simp only [pureOp] at h
  split at h
  · rename_i x t hx ht
    obtain ⟨u, hu, hr⟩ := args1 htr hc hx
    rw [hu]
    split at h
    · rename_i hte
      simp at h; obtain ⟨rfl, rfl⟩ := h
      obtain ⟨aa, cap, rfl, _, _⟩ := hr.slE
      have hun := (htt.facts hte).under
      exact ⟨_, by simp [Builtin.len_, ht, run_underlying hun]; rfl, .lit _ rfl⟩
    · rename_i hte
      simp at h; obtain ⟨rfl, rfl⟩ := h
      have hun := (htt.facts hte).under
      cases hr with
      | msl => exact ⟨_, by simp [Builtin.len_, ht, run_underlying hun]; rfl, .lit _ rfl⟩
      | msl0 => exact ⟨_, by simp [Builtin.len_, ht, run_underlying hun]; rfl, .lit _ rfl⟩
    · rename_i hte
      simp at h; obtain ⟨rfl, rfl⟩ := h
      cases hr.litE
      have hun := (htt.facts hte).under
      exact ⟨_, by simp [Builtin.len_, ht, run_underlying hun]; rfl, .lit _ rfl⟩
    · simp at h
  · simp at h

theorem run_min_two {ts : Array TypeId} {ty : TypeId} {u v r : Value} (h : (Builtin.min2 u v).run P w = .ok r w) : (Builtin.min_ ts ty #[u, v]).run P w = .ok r w := by
  change Sem.run P (List.foldlM Builtin.min2 u [v]) w = _
  simp only [List.foldlM_cons, List.foldlM_nil, Sem.run_bind, h, Result.andThen, Sem.run_pure]

theorem run_min_three {ts : Array TypeId} {ty : TypeId} {u v x r r' : Value} (h : (Builtin.min2 u v).run P w = .ok r w) (h' : (Builtin.min2 r x).run P w = .ok r' w) : (Builtin.min_ ts ty #[u, v, x]).run P w = .ok r' w := by
  change Sem.run P (List.foldlM Builtin.min2 u [v, x]) w = _
  simp only [List.foldlM_cons, List.foldlM_nil, Sem.run_bind, h, h', Result.andThen, Sem.run_pure]

theorem run_max_two {ts : Array TypeId} {ty : TypeId} {u v r : Value} (h : (Builtin.max2 u v).run P w = .ok r w) : (Builtin.max_ ts ty #[u, v]).run P w = .ok r w := by
  change Sem.run P (List.foldlM Builtin.max2 u [v]) w = _
  simp only [List.foldlM_cons, List.foldlM_nil, Sem.run_bind, h, Result.andThen, Sem.run_pure]

theorem run_max_three {ts : Array TypeId} {ty : TypeId} {u v x r r' : Value} (h : (Builtin.max2 u v).run P w = .ok r w) (h' : (Builtin.max2 r x).run P w = .ok r' w) : (Builtin.max_ ts ty #[u, v, x]).run P w = .ok r' w := by
  change Sem.run P (List.foldlM Builtin.max2 u [v, x]) w = _
  simp only [List.foldlM_cons, List.foldlM_nil, Sem.run_bind, h, h', Result.andThen, Sem.run_pure]

/-- **What computes, computes the same on the machine.** -/
theorem pureOp_sound (htt : TTok P tt) {T : Env} {a : Act} {ctx : Ctx} (htr : TR g w T a.tmps) (hc : ctxOk a.tmps ctx) {o : Oper} {Cs : List Prop} {z : V}
    (h : pureOp tt T ctx o.op = some (Cs, z)) (hC : ∀ c ∈ Cs, c) : ∃ v, (execOp a.eval o).run P w = .ok (.value v) w ∧ Rep g w z v := by
  obtain ⟨dst, op, type, pos, after, guard⟩ := o
  have fin : ∀ {s : Sem Value}, execOp a.eval ⟨dst, op, type, pos, after, guard⟩ = (do pure (Next.value (← s)) : Sem Next) → (∃ v, s.run P w = .ok v w ∧ Rep g w z v) →
      ∃ v, (execOp a.eval ⟨dst, op, type, pos, after, guard⟩).run P w = .ok (.value v) w ∧ Rep g w z v := by
    rintro s hs ⟨v, hv, hr⟩
    exact ⟨v, by rw [hs]; exact run_v hv, hr⟩
  cases op
  case move x =>
    simp only [pureOp] at h
    split at h
    · rename_i v hv; simp at h; obtain ⟨rfl, rfl⟩ := h; exact ⟨_, rfl, evalO_rep htr hc hv⟩
    · simp at h
  case assign x =>
    simp only [pureOp] at h
    split at h
    · rename_i v hv; simp at h; obtain ⟨rfl, rfl⟩ := h; exact ⟨_, rfl, evalO_rep htr hc hv⟩
    · simp at h
  case pick c x y =>
    cases c with
    | tmp c =>
      simp only [pureOp] at h
      split at h
      · rename_i b p q hb hp hq
        simp at h; obtain ⟨rfl, rfl⟩ := h
        have hbv := (evalO_rep htr hc hb).litE
        have hat := tmp_at htr hc hb
        rw [hbv] at hat
        have hcc : ctxOk a.tmps ((c, b) :: ctx) := by
          intro r hr
          rcases List.mem_cons.1 hr with rfl | hr
          · exact hat
          · exact hc r hr
        cases b
        · refine ⟨a.eval y, ?_, ?_⟩
          · simp [execOp, hbv, asBool]
          · have := evalO_rep htr hcc hq
            rw [this.litE]; exact .lit _ rfl
        · refine ⟨a.eval x, ?_, ?_⟩
          · simp [execOp, hbv, asBool]
          · have := evalO_rep htr hcc hp
            rw [this.litE]; exact .lit _ rfl
      · simp at h
    | _ => simp [pureOp] at h
  case binOp o t x y yt =>
    simp only [pureOp] at h
    split at h
    · rename_i p q hp hq
      exact fin rfl (pbin2_sound htt (evalO_rep htr hc hp) (evalO_rep htr hc hq) h hC)
    · simp at h
  case unOp o t x =>
    simp only [pureOp] at h
    split at h
    · rename_i p hp
      split at h
      · rename_i v hv
        simp at h; obtain ⟨rfl, rfl⟩ := h
        have hr := evalO_rep htr hc hp
        refine fin rfl ?_
        unfold punary at hv
        split at hv <;> simp only [Option.some.injEq, reduceCtorEq] at hv <;> subst hv <;> rw [hr.litE] <;> exact ⟨_, rfl, .lit _ rfl⟩
      · simp at h
    · simp at h
  case extract x i =>
    simp only [pureOp] at h
    split at h
    · rename_i vs hvs
      split at h
      · rename_i v hv
        simp at h; obtain ⟨rfl, rfl⟩ := h
        obtain ⟨us, hus, hl, hg⟩ := (evalO_rep htr hc hvs).tupE
        have hlt : i < us.size := by rw [← hl]; exact (List.getElem?_eq_some_iff.1 hv).1
        refine fin rfl ⟨us[i], ?_, hg i _ _ hv (Array.getElem?_eq_getElem hlt)⟩
        rw [hus]
        simp [Instr.extract, Array.getElem?_eq_getElem hlt]
      · simp at h
    · simp at h
  case fieldAddr s x f => exact fin rfl (sound_fieldAddr htt htr hc h)
  case field s x f =>
    simp only [pureOp] at h
    split at h
    · rename_i cs fs _ _ _ hv hs
      split at h
      · rename_i fd hfd
        split at h
        · rename_i u hpu
          simp at h; obtain ⟨rfl, rfl⟩ := h
          obtain ⟨vs, hvs, hr⟩ := (evalO_rep htr hc hv).aggL
          obtain ⟨pv, hrun, hrep, _⟩ := partV_sound htt hpu hr
          refine fin rfl ⟨pv, ?_, hrep⟩
          have hu := (htt.facts hs).under
          rw [hvs]
          simp only [Instr.field, Sem.run_bind, run_underlying hu, Result.andThen, hfd, asAgg, Sem.run_pure, hrun]
        · simp at h
      · simp at h
    · simp at h
  case indexAddr t x ix => exact fin rfl (sound_indexAddr htt htr hc h hC)
  case index t x ix =>
    simp only [pureOp] at h
    split at h
    · rename_i s k j _ _ _ hx hix ht
      simp at h; obtain ⟨rfl, rfl⟩ := h
      have hC := hC _ (List.mem_singleton.2 rfl)
      refine fin rfl ⟨_, ?_, .lit _ rfl⟩
      rw [(evalO_rep htr hc hx).litE, (evalO_rep htr hc hix).litE]
      exact run_index_str htt ht rfl hC
    · simp at h
  case load t x => exact fin rfl (sound_load htt htr hc h)
  case slice t x lo hi mx =>
    simp only [pureOp] at h
    split at h
    · rename_i v l hh m hv hl hhi hm
      exact fin rfl (pslice_sound htt h hC (evalO_rep htr hc hv) (evalOO_rep htr hc hl) (evalOO_rep htr hc hhi) (evalOO_rep htr hc hm))
    · simp at h
  case build t parts => exact fin rfl (sound_build htt htr hc h)
  case makeFunc fn first captured =>
    simp only [pureOp] at h
    split at h
    · rename_i xs ys hx hy
      simp at h; obtain ⟨rfl, rfl⟩ := h
      obtain ⟨l1, g1⟩ := evalL_array htr hc hx
      obtain ⟨l2, g2⟩ := evalL_array htr hc hy
      exact fin rfl ⟨_, rfl, .fn _ _ _ _ _ l1 l2 g1 g2⟩
    · simp at h
  case convert src dst' x =>
    simp only [pureOp] at h
    split at h
    · rename_i k n _ k' _ _ _ hx hs hd
      simp at h; obtain ⟨rfl, rfl⟩ := h
      refine fin rfl ⟨_, ?_, .lit _ rfl⟩
      rw [(evalO_rep htr hc hx).litE]
      simp only [convert, Sem.run_bind, run_underlying (htt.facts hs).under, run_underlying (htt.facts hd).under, Result.andThen, Conv.intToInt]
      rfl
    · rename_i s _ _ _ _ hx hs hd
      simp at h; obtain ⟨rfl, rfl⟩ := h
      refine fin rfl ⟨_, ?_, .lit _ rfl⟩
      rw [(evalO_rep htr hc hx).litE]
      simp only [convert, Sem.run_bind, run_underlying (htt.facts hs).under, run_underlying (htt.facts hd).under, Result.andThen]
      rfl
    · simp at h
  case call c =>
    obtain ⟨callee, args, argTypes⟩ := c
    cases callee with
    | builtin b =>
      have hexec : ∀ {s : Sem Value}, (∀ v w', s.run P w = .ok v w' → (builtin b argTypes type (args.map fun | .const _ => true | _ => false) (args.map a.eval)).run P w = .ok (.value v) w') →
          (∃ v, s.run P w = .ok v w ∧ Rep g w z v) → ∃ v, (execOp a.eval ⟨dst, .call ⟨.builtin b, args, argTypes⟩, type, pos, after, guard⟩).run P w = .ok (.value v) w ∧ Rep g w z v := by
        rintro s hs ⟨v, hv, hr⟩
        refine ⟨v, ?_, hr⟩
        simp only [execOp, resolve, Sem.run_bind, Sem.run_pure, Result.andThen, invoke]
        exact hs v w hv
      cases b
      case len => exact hexec (fun v w' hv => by simp only [builtin]; exact run_v hv) (sound_len htt htr hc h)
      case min =>
        simp only [pureOp] at h
        split at h
        · rename_i x y hxy
          split at h
          · rename_i v hv
            simp at h; obtain ⟨rfl, rfl⟩ := h
            obtain ⟨u1, u2, hu, h1, h2⟩ := args2 htr hc hxy
            obtain ⟨r, hr1, hr2⟩ := minV_sound hv h1 h2
            exact hexec (s := Builtin.min_ argTypes type (args.map a.eval)) (fun v w' hv => by simp only [builtin]; exact run_v hv) ⟨r, by rw [hu]; exact run_min_two hr1, hr2⟩
          · simp at h
        · rename_i x y z' hxy
          split at h
          · rename_i v hv
            split at h
            · rename_i v' hv'
              simp at h; obtain ⟨rfl, rfl⟩ := h
              obtain ⟨u1, u2, u3, hu, h1, h2, h3⟩ := args3 htr hc hxy
              obtain ⟨r, hr1, hr2⟩ := minV_sound hv h1 h2
              obtain ⟨r', hr1', hr2'⟩ := minV_sound hv' hr2 h3
              exact hexec (s := Builtin.min_ argTypes type (args.map a.eval)) (fun v w' hv => by simp only [builtin]; exact run_v hv) ⟨r', by rw [hu]; exact run_min_three hr1 hr1', hr2'⟩
            · simp at h
          · simp at h
        · simp at h
      case max =>
        simp only [pureOp] at h
        split at h
        · rename_i x y hxy
          split at h
          · rename_i v hv
            simp at h; obtain ⟨rfl, rfl⟩ := h
            obtain ⟨u1, u2, hu, h1, h2⟩ := args2 htr hc hxy
            obtain ⟨r, hr1, hr2⟩ := maxV_sound hv h1 h2
            exact hexec (s := Builtin.max_ argTypes type (args.map a.eval)) (fun v w' hv => by simp only [builtin]; exact run_v hv) ⟨r, by rw [hu]; exact run_max_two hr1, hr2⟩
          · simp at h
        · rename_i x y z' hxy
          split at h
          · rename_i v hv
            split at h
            · rename_i v' hv'
              simp at h; obtain ⟨rfl, rfl⟩ := h
              obtain ⟨u1, u2, u3, hu, h1, h2, h3⟩ := args3 htr hc hxy
              obtain ⟨r, hr1, hr2⟩ := maxV_sound hv h1 h2
              obtain ⟨r', hr1', hr2'⟩ := maxV_sound hv' hr2 h3
              exact hexec (s := Builtin.max_ argTypes type (args.map a.eval)) (fun v w' hv => by simp only [builtin]; exact run_v hv) ⟨r', by rw [hu]; exact run_max_three hr1 hr1', hr2'⟩
            · simp at h
          · simp at h
        · simp at h
      all_goals simp [pureOp] at h
    | value f => simp [pureOp] at h
    | invoke r m => simp [pureOp] at h
  case nilCheck x =>
    simp only [pureOp] at h
    split at h
    · rename_i v hv
      simp at h; obtain ⟨rfl, rfl⟩ := h
      have hr := evalO_rep htr hc hv
      obtain ⟨c, b, o, hbo, _⟩ := hr.rpE
      exact ⟨a.eval x, by simp only [execOp, hbo]; rfl, hr⟩
    · rename_i l i o hv
      simp at h; obtain ⟨rfl, rfl⟩ := h
      have hr := evalO_rep htr hc hv
      obtain ⟨_, hbo⟩ := hr.lpE
      exact ⟨a.eval x, by simp only [execOp, hbo]; rfl, hr⟩
    · rename_i f p q hv
      simp at h; obtain ⟨rfl, rfl⟩ := h
      have hr := evalO_rep htr hc hv
      obtain ⟨fs, cs, hbo, _⟩ := hr.fnE
      exact ⟨a.eval x, by simp only [execOp, hbo]; rfl, hr⟩
    · simp at h
  all_goals simp [pureOp] at h

end Go.Abs
