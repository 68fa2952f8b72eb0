/- The operations that only compute: the machine makes the same, all kinds together. -/
import Derived.Test.YtgeajlnkbfeidaaAbs5
namespace Go.Abs
open Go Go.RowKit

variable {P : Program} {tt : TT} {g : Gh} {w : World}

theorem Rep.tupE {cs : List V} {v : Value} (h : Rep g w (.tup cs) v) : ∃ vs, v = .tuple vs ∧ cs.length = vs.size ∧ ∀ (i : Nat) x y, cs[i]? = some x → vs[i]? = some y → Rep g w x y := by
  cases h with
  | tup cs vs h1 h2 => exact ⟨vs, rfl, h1, h2⟩

theorem Rep.rpE {x : V} {v : Value} (h : Rep g w (.rp x) v) : ∃ c b o, v = .pointer (some ⟨b, o, none⟩) ∧ Rep g w x c ∧ Holds w b o c ∧ ∀ j, j < c.cells.size → g.fx b (o + j) := by
  cases h with
  | rp x c b o h1 h2 h3 => exact ⟨c, b, o, rfl, h1, h2, h3⟩

theorem Rep.lpE {l i o : Nat} {v : Value} (h : Rep g w (.lp l i o) v) : l < g.n ∧ v = .pointer (some ⟨g.blk l, g.off l + i * g.k l + o, none⟩) := by
  cases h with
  | lp l i o h1 => exact ⟨h1, rfl⟩

theorem tmp_at {T : Env} {a : Act} {ctx : Ctx} (htr : TR g w T a.tmps) (hc : ctxOk a.tmps ctx) {t : Nat} {y : V} (he : evalO T ctx (.tmp t) = some y) : a.tmps[t]? = some (a.eval (.tmp t)) := by
  simp only [evalO] at he
  split at he
  · rename_i c z hz
    split at he
    · rename_i hs
      obtain ⟨v, hv, _⟩ := (htr t c z hz).1 (ctxOk_sub hs hc)
      simp [Act.eval, hv]
    · simp at he
  · simp at he

theorem run_v {s : Sem Value} {v : Value} {w w' : World} (h : s.run P w = .ok v w') : (do pure (Next.value (← s)) : Sem Next).run P w = .ok (.value v) w' := by
  simp only [Sem.run_bind, h, Result.andThen]; rfl

theorem minV_sound {x y z : V} {a b : Value} (h : minV x y = some z) (hx : Rep g w x a) (hy : Rep g w y b) : ∃ v, (Builtin.min2 a b).run P w = .ok v w ∧ Rep g w z v := by
  unfold minV at h
  split at h
  · split at h
    · rename_i hk; subst hk
      simp at h; subst h
      cases hx.litE; cases hy.litE
      exact ⟨_, rfl, .lit _ rfl⟩
    · simp at h
  · simp at h

theorem maxV_sound {x y z : V} {a b : Value} (h : maxV x y = some z) (hx : Rep g w x a) (hy : Rep g w y b) : ∃ v, (Builtin.max2 a b).run P w = .ok v w ∧ Rep g w z v := by
  unfold maxV at h
  split at h
  · split at h
    · rename_i hk; subst hk
      simp at h; subst h
      cases hx.litE; cases hy.litE
      exact ⟨_, rfl, .lit _ rfl⟩
    · simp at h
  · simp at h

theorem args2 {T : Env} {a : Act} {ctx : Ctx} (htr : TR g w T a.tmps) (hc : ctxOk a.tmps ctx) {args : Array Operand} {x y : V} (he : evalL T ctx args.toList = some [x, y]) :
    ∃ u v, args.map a.eval = #[u, v] ∧ Rep g w x u ∧ Rep g w y v := by
  obtain ⟨hl, hg⟩ := evalL_rep htr hc he
  obtain ⟨l⟩ := args
  simp only at hl hg
  match l, hl, hg with
  | [p, q], _, hg => exact ⟨a.eval p, a.eval q, by simp, hg 0 _ _ rfl rfl, hg 1 _ _ rfl rfl⟩

theorem args3 {T : Env} {a : Act} {ctx : Ctx} (htr : TR g w T a.tmps) (hc : ctxOk a.tmps ctx) {args : Array Operand} {x y z : V} (he : evalL T ctx args.toList = some [x, y, z]) :
    ∃ u v r, args.map a.eval = #[u, v, r] ∧ Rep g w x u ∧ Rep g w y v ∧ Rep g w z r := by
  obtain ⟨hl, hg⟩ := evalL_rep htr hc he
  obtain ⟨l⟩ := args
  simp only at hl hg
  match l, hl, hg with
  | [p, q, s], _, hg => exact ⟨a.eval p, a.eval q, a.eval s, by simp, hg 0 _ _ rfl rfl, hg 1 _ _ rfl rfl, hg 2 _ _ rfl rfl⟩

theorem args1 {T : Env} {a : Act} {ctx : Ctx} (htr : TR g w T a.tmps) (hc : ctxOk a.tmps ctx) {args : Array Operand} {x : V} (he : evalL T ctx args.toList = some [x]) :
    ∃ u, args.map a.eval = #[u] ∧ Rep g w x u := by
  obtain ⟨hl, hg⟩ := evalL_rep htr hc he
  obtain ⟨l⟩ := args
  simp only at hl hg
  match l, hl, hg with
  | [p], _, hg => exact ⟨a.eval p, by simp, hg 0 _ _ rfl rfl⟩

theorem Rep.fnE {f : Fn} {xs ys : List V} {v : Value} (h : Rep g w (.fn f xs ys) v) : ∃ fs cs, v = .func f fs cs ∧ xs.length = fs.size ∧ ys.length = cs.size ∧
    (∀ (i : Nat) x y, xs[i]? = some x → fs[i]? = some y → Rep g w x y) ∧ (∀ (i : Nat) x y, ys[i]? = some x → cs[i]? = some y → Rep g w x y) := by
  cases h with
  | fn f first cap fs cs h1 h2 h3 h4 => exact ⟨fs, cs, rfl, h1, h2, h3, h4⟩

theorem mapM_places (htt : TTok P tt) {fs : Array Field} (h : ∀ (i : Nat) f, fs[i]? = some f → ∃ e, tt f.type = some e) (w : World) :
    ∃ pl : Array (Nat × Nat), (fs.mapM fun f => do pure (f.offset, ← sizeOf f.type) : Sem (Array (Nat × Nat))).run P w = .ok pl w ∧ ∀ (i : Nat) fd e, fs[i]? = some fd → tt fd.type = some e → pl[i]? = some (fd.offset, e.size) := by
  have key : ∀ (l : List Field) (acc : Array (Nat × Nat)), (∀ f ∈ l, ∃ e, tt f.type = some e) →
      ∃ rs : List (Nat × Nat), (∀ (i : Nat) fd e, l[i]? = some fd → tt fd.type = some e → rs[i]? = some (fd.offset, e.size)) ∧ rs.length = l.length ∧
        (l.mapM fun f => do pure (f.offset, ← sizeOf f.type) : Sem (List (Nat × Nat))).run P w = .ok rs w := by
    intro l
    induction l with
    | nil => intro acc _; exact ⟨[], by simp, rfl, rfl⟩
    | cons f l ih =>
      intro acc hl
      obtain ⟨e, he⟩ := hl f (List.mem_cons_self ..)
      obtain ⟨rs, h1, h2, h3⟩ := ih acc (fun f hf => hl f (List.mem_cons_of_mem _ hf))
      refine ⟨(f.offset, e.size) :: rs, fun i fd e' hfd he' => ?_, by simp [h2], ?_⟩
      · cases i with
        | zero => simp at hfd; subst hfd; rw [he] at he'; cases he'; rfl
        | succ i => simp at hfd; simpa using h1 i fd e' hfd he'
      · simp only [List.mapM_cons, Sem.run_bind, run_sizeOf' (htt.facts he), Result.andThen, h3, Sem.run_pure]
  obtain ⟨rs, h1, h2, h3⟩ := key fs.toList #[] (fun f hf => by
    obtain ⟨i, hi, e⟩ := List.getElem_of_mem hf
    exact h i f (by simp at hi; simp [← e, hi]))
  refine ⟨rs.toArray, ?_, fun i fd e hfd he => by simpa using h1 i fd e (by simpa using hfd) he⟩
  rw [Array.mapM_eq_mapM_toList]
  change Sem.run P ((fs.toList.mapM fun f => do pure (f.offset, ← sizeOf f.type) : Sem (List (Nat × Nat))).bind fun x => Sem.pure x.toArray) w = _
  exact (Sem.run_bind ..).trans (by rw [h3]; rfl)

theorem allTy_get : ∀ {l : List Field}, allTy tt l = true → ∀ (i : Nat) f, l[i]? = some f → ∃ e, tt f.type = some e
  | [], _, i, f, h => by simp at h
  | q :: r, h, i, f, hf => by
    simp only [allTy, Bool.and_eq_true] at h
    cases i with
    | zero => simp at hf; subst hf; exact Option.isSome_iff_exists.1 h.1
    | succ i => simp at hf; exact allTy_get h.2 i f hf

theorem sound_fieldAddr (htt : TTok P tt) {T : Env} {a : Act} {ctx : Ctx} (htr : TR g w T a.tmps) (hc : ctxOk a.tmps ctx) {s : TypeId} {x : Operand} {f : Nat} {Cs : List Prop} {z : V}
    (h : pureOp tt T ctx (.fieldAddr s x f) = some (Cs, z)) : ∃ v, (Instr.fieldAt s (a.eval x) f).run P w = .ok v w ∧ Rep g w z v := by
  simp only [pureOp] at h
  split at h
  · rename_i v fs _ _ _ hv hs
    split at h
    · rename_i fd hfd
      split at h
      · rename_i e he
        split at h
        · simp at h
        · rename_i k hk
          have hu := (htt.facts hs).under
          have hsz := run_sizeOf' (P := P) (htt.facts he)
          have hrep := evalO_rep htr hc hv
          have main : ∀ b o, a.eval x = .pointer (some ⟨b, o, none⟩) → (Instr.fieldAt s (a.eval x) f).run P w = .ok (.pointer (some ⟨b, o + fd.offset, none⟩)) w := by
            intro b o hbo
            rw [hbo]
            simp only [Instr.fieldAt, Sem.run_bind, run_underlying hu, Result.andThen, hfd, Instr.sureAddr, Sem.run_pure, fieldPlace, hsz, hk]
            rw [if_neg (by omega), addr_add]
            rfl
          split at h
          · rename_i cs
            split at h
            · rename_i u hpu
              simp at h; obtain ⟨rfl, rfl⟩ := h
              obtain ⟨c, b, o, hbo, h1, h2, h3⟩ := hrep.rpE
              obtain ⟨pv, _, hr, hcells, _⟩ := partV_sound htt hpu (h1.cellsL rfl)
              refine ⟨_, main b o hbo, .rp _ pv _ _ hr (fun j x hx => ?_) (fun j hj => ?_)⟩
              · rw [Nat.add_assoc]; exact h2 _ _ (hcells j x hx)
              · rw [Nat.add_assoc]
                have := hcells j _ (Array.getElem?_eq_getElem hj)
                exact h3 _ (Array.getElem?_eq_some_iff.1 this).1
            · simp at h
          · rename_i l i o
            simp at h; obtain ⟨rfl, rfl⟩ := h
            obtain ⟨hl, hbo⟩ := hrep.lpE
            refine ⟨_, main _ _ hbo, ?_⟩
            rw [Nat.add_assoc]
            exact .lp l i _ hl
          · simp at h
      · simp at h
    · simp at h
  · simp at h

theorem sound_load (htt : TTok P tt) {T : Env} {a : Act} {ctx : Ctx} (htr : TR g w T a.tmps) (hc : ctxOk a.tmps ctx) {t : TypeId} {x : Operand} {Cs : List Prop} {z : V}
    (h : pureOp tt T ctx (.load t x) = some (Cs, z)) : ∃ v, (Instr.loadAt t (a.eval x)).run P w = .ok v w ∧ Rep g w z v := by
  simp only [pureOp] at h
  split at h
  · rename_i v e hv he
    obtain ⟨c, b, o, hbo, h1, h2, h3⟩ := (evalO_rep htr hc hv).rpE
    have main : (isAggD e.d = true ∧ (∃ vs, c = .agg vs ∧ vs.size = e.size)) ∨ (isAggD e.d = false ∧ one c = true) → (Instr.loadAt t (a.eval x)).run P w = .ok c w := by
      intro hcase
      rw [hbo]
      simp only [Instr.loadAt, Instr.sureAddr, Sem.run_bind, Sem.run_pure, Result.andThen]
      exact run_loadVar_of htt he h2 hcase
    split at h
    · rename_i cs ha
      split at h
      · rename_i hl
        simp at h; obtain ⟨rfl, rfl⟩ := h
        obtain ⟨vs, rfl, hr⟩ := h1.aggL
        exact ⟨_, main (.inl ⟨ha, vs, rfl, by rw [← hr.1]; exact Nat.eq_of_beq_eq_true hl⟩), h1⟩
      · simp at h
    · simp at h
    · simp at h
    · rename_i ha hna hnt
      simp at h; obtain ⟨rfl, rfl⟩ := h
      exact ⟨_, main (.inr ⟨ha, h1.one_of (fun cs e => hna cs e) (fun cs e => hnt cs e)⟩), h1⟩
    · simp at h
  · simp at h

theorem sound_indexAddr (htt : TTok P tt) {T : Env} {a : Act} {ctx : Ctx} (htr : TR g w T a.tmps) (hc : ctxOk a.tmps ctx) {t : TypeId} {x ix : Operand} {Cs : List Prop} {z : V}
    (h : pureOp tt T ctx (.indexAddr t x ix) = some (Cs, z)) (hC : ∀ c ∈ Cs, c) : ∃ v, (Instr.indexAt t (a.eval x) (a.eval ix)).run P w = .ok v w ∧ Rep g w z v := by
  simp only [pureOp] at h
  split at h
  · rename_i zf n el k j e _ _ _ hx hix ht
    split at h
    · rename_i te hte
      split at h
      · rename_i hso
        simp at h; obtain ⟨rfl, rfl⟩ := h
        have hC := hC _ (List.mem_singleton.2 rfl)
        have hu := (htt.facts ht).under
        have hsz := run_sizeOf' (P := P) (htt.facts hte)
        have hr := evalO_rep htr hc hx
        have hj := (evalO_rep htr hc hix).litE
        rw [hj]
        generalize a.eval x = v at hr ⊢
        cases hr with
        | sl0 => omega
        | sl n el b o kk cap c h1 h2 h3 h4 h5 h6 =>
          have hi : j.toNat < n := by omega
          have hk : kk = te.size := by rw [← (szOk_spec hso).2, ← h2 _ hi, ((h1 _ hi).cellsL (szOk_spec hso).1).1]
          subst hk
          refine ⟨.pointer (some ⟨b, o + j.toNat * te.size, none⟩), ?_, .rp _ (c j.toNat) _ _ (h1 _ hi) (h3 _ hi) (fun i hi' => h4 _ hi i (by rw [← h2 _ hi]; exact hi'))⟩
          simp only [Instr.indexAt, Sem.run_bind, asIntOf_run, Result.andThen, run_underlying hu, Sem.run_pure]
          rw [if_pos hC]
          simp only [Sem.run_bind, hsz, Result.andThen, addr_add]
          rfl
      · simp at h
    · simp at h
  · rename_i k l i n q j e _ _ _ hx hix ht
    split at h
    · rename_i te hte
      split at h
      · rename_i hkb
        have hk : k = te.size := Nat.eq_of_beq_eq_true hkb
        simp at h; obtain ⟨rfl, rfl⟩ := h
        have hC := hC _ (List.mem_singleton.2 rfl)
        have hu := (htt.facts ht).under
        have hsz := run_sizeOf' (P := P) (htt.facts hte)
        have hr := evalO_rep htr hc hx
        have hj := (evalO_rep htr hc hix).litE
        rw [hj]
        generalize a.eval x = v at hr ⊢
        cases hr with
        | msl0 => omega
        | msl l i n hln _ =>
          refine ⟨.pointer (some ⟨g.blk l, g.off l + (i + j.toNat) * g.k l + 0, none⟩), ?_, .lp l (i + j.toNat) 0 hln⟩
          simp only [Instr.indexAt, Sem.run_bind, asIntOf_run, Result.andThen, run_underlying hu, Sem.run_pure]
          rw [if_pos hC]
          simp only [Sem.run_bind, hsz, Result.andThen, addr_add, hk]
          rw [show g.off l + i * te.size + j.toNat * te.size = g.off l + (i + j.toNat) * te.size + 0 by rw [Nat.add_mul]; omega]
          rfl
      · simp at h
    · simp at h
  · simp at h

end Go.Abs
