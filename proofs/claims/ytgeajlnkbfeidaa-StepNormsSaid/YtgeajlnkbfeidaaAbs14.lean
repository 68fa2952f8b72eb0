/- Regions: their operations one after another, on abstract states. -/
import Derived.Test.YtgeajlnkbfeidaaAbs13
namespace Go.Abs
open Go Go.RowKit

variable {P : Program} {tt : TT}

def allP : List Prop → Prop
  | [] => True
  | p :: r => p ∧ allP r

theorem allP_mem : ∀ {l : List Prop}, allP l → ∀ c ∈ l, c
  | [], _, c, h => by simp at h
  | p :: r, ha, c, h => by
    rcases List.mem_cons.1 h with rfl | h
    · exact ha.1
    · exact allP_mem ha.2 c h

theorem allP_append : ∀ {l m : List Prop}, allP (l ++ m) ↔ allP l ∧ allP m
  | [], m => by simp [allP]
  | p :: r, m => by simp [allP, allP_append (l := r), and_assoc]

/-- A slice literal as a frozen value. -/
def frozenOf (xs : List V) : V :=
  match xs with
  | [] => .sl true 0 (fun _ => .bad)
  | x :: r => .sl false (r.length + 1) (fun i => (x :: r).getD i .bad)

/-- What does more than compute. -/
def effW (P : Program) (tt : TT) (T : Env) (ctx : Ctx) (op : Op) (H : Heap) (K : V → Heap → Prop) : Prop :=
  match op with
  | .call ⟨.value f, args, _⟩ => ∃ fid xs ys cs, evalO T ctx f = some (.fn (.func fid) ys cs) ∧ evalL T ctx args.toList = some xs ∧ ACall P fid (ys ++ xs ++ cs) H K
  | .call ⟨.builtin .append, args, tys⟩ => ∃ s x t t' e e' te es ys, evalL T ctx args.toList = some [s, x] ∧ tys = #[t, t'] ∧ (∃ q1 q2 q3, tt t = some ⟨.slice e, q1, q2, q3⟩) ∧ (∃ q1 q2 q3, tt t' = some ⟨.slice e', q1, q2, q3⟩) ∧ tt e = some te ∧
      szOk te.zero te.size = true ∧ appS te.size H s = some es ∧ appX te.size H x = some ys ∧ (es.length + ys.length) * te.bytes ≤ 140737488355328 ∧ es.length + ys.length ≤ 9223372036854775807 ∧
      K (.msl te.size H.length 0 (es.length + ys.length)) (appH te.size H s (es ++ ys))
  | .alloc t => ∃ e, tt t = some e ∧ noTup e.zero = true ∧ K (.lp H.length 0 0) (H ++ [.vec e.zero.cells.length [e.zero]])
  | .box _ x => ∃ v, evalO T ctx x = some v ∧ noTup v = true ∧ K (.lp H.length 0 0) (H ++ [.vec v.cells.length [v]])
  | .load t x => ∃ l i o k es y v e, evalO T ctx x = some (.lp l i o) ∧ H[l]? = some (.vec k es) ∧ es[i]? = some y ∧ tt t = some e ∧ loadV tt t y o = some v ∧ K v H
  | .store t p x => ∃ l i o k es y v y' e, evalO T ctx p = some (.lp l i o) ∧ evalO T ctx x = some v ∧ H[l]? = some (.vec k es) ∧ es[i]? = some y ∧ tt t = some e ∧ szOk v e.size = true ∧ storeV y o v = some y' ∧ K .bad (H.set l (.vec k (es.set i y')))
  | .buildSlice t n parts => ∃ xs, bslOp tt T ctx (.buildSlice t n parts) = some xs ∧ (K (frozenOf xs) H ∨ ∃ e te q1 q2 q3, tt t = some ⟨.slice e, q1, q2, q3⟩ ∧ tt e = some te ∧ K (.msl te.size H.length 0 xs.length) (H ++ [.vec te.size xs]))
  | .binOp .eql t x (.const (.slice none 0 0)) _ => ∃ z n el e q1 q2 q3, evalO T ctx x = some (.sl z n el) ∧ tt t = some ⟨.slice e, q1, q2, q3⟩ ∧ ∀ b : Bool, (b = true → n = 0) → K (.lit (.bool b)) H
  | _ => False

/-- The same, told in another way. -/
def Ghost (N : Nat) (T : Env) (H : Heap) (T' : Env) (H' : Heap) : Prop := ∀ g w a ds, Good N g w T H ds a → ∃ g', Good N g' w T' H' ds a ∧ Ext g w g' w

theorem Ghost.refl (N : Nat) (T : Env) (H : Heap) : Ghost N T H T H := fun g w _ _ hg => ⟨g, hg, Ext.refl g w⟩

/-- Operations of a region, one after another. -/
def RWs (P : Program) (tt : TT) (N : Nat) (ops : Array Oper) : List Nat → Env → Heap → (Env → Heap → Prop) → Prop
  | [], T, H, K => K T H
  | i :: is, T0, H0, K => ∃ T H, Ghost N T0 H0 T H ∧ ∃ o ctx, ops[i]? = some o ∧ ctxOf ops T o = some ctx ∧ dstOk N o ctx = true ∧
      ((∃ Cs x, pureOp tt T ctx o.op = some (Cs, x) ∧ (gB T ctx = true → allP Cs) ∧ RWs P tt N ops is (T.setO o.dst (ctx, x)) H K) ∨
       ((gB T ctx = true → effW P tt T ctx o.op H (fun x H' => RWs P tt N ops is (T.setO o.dst (ctx, x)) H' K)) ∧ (gB T ctx = false → ∃ y, RWs P tt N ops is (T.setO o.dst (ctx, y)) H K)))

theorem Good.step {N : Nat} {g g' : Gh} {w w' : World} {T T' : Env} {H H' : Heap} {ds : List Nat} {a a' : Act} (hg : Good N g w T H ds a) (e : Ext g w g' w') (hs : SR g' w' H') (ht : TR g' w' T' a'.tmps)
    (hd : a'.defers = a.defers) (hz : a'.tmps.size = a.tmps.size) : Good N g' w' T' H' ds a' where
  sr := hs
  tr := ht
  df := by
    rw [hd, hg.df]
    apply List.map_congr_left
    intro l hl
    simp only [mkD, e.blk l (hg.dl l hl)]
  dl l hl := Nat.lt_of_lt_of_le (hg.dl l hl) e.n
  sz := by rw [hz]; exact hg.sz

theorem put_size (a : Act) (d : Option Tmp) (v : Value) : (a.put d v).tmps.size = a.tmps.size := by cases d <;> simp [Act.put]
theorem put_defers (a : Act) (d : Option Tmp) (v : Value) : (a.put d v).defers = a.defers := by cases d <;> rfl

theorem semAt_of {ro : Option Nat} {ρ : Operand → Value} {o : Oper} (h : ∀ c, o.op ≠ .defer c) : o.semAt ro ρ = execOp ρ o := Oper.semAt_eq ro ρ o h

theorem wpIn_value {ro : Option Nat} {o : Oper} {a : Act} {w w' : World} {v : Value} {next : Act → World → Prop} {R : Exit → Act → World → Prop} (hd : ∀ c, o.op ≠ .defer c) (hr : (execOp a.eval o).run P w = .ok (.value v) w')
    (hn : next (a.put o.dst v) w') : o.wpIn (FR ro) 0 P a w next R :=
  ⟨fun _ _ => trivial, by rw [semAt_of hd, hr]; exact hn⟩

theorem wpIn_skip' {ro : Option Nat} {o : Oper} {a : Act} {w w' : World} {next : Act → World → Prop} {R : Exit → Act → World → Prop} (hd : ∀ c, o.op ≠ .defer c) (hr : (execOp a.eval o).run P w = .ok .skip w')
    (hn : next (a.put o.dst undef) w') : o.wpIn (FR ro) 0 P a w next R :=
  ⟨fun _ _ => trivial, by rw [semAt_of hd, hr]; exact hn⟩

theorem callsIn_FR {ro : Option Nat} {n : Nat} {f : FuncId} {as : Array Value} {w : World} {R : Ending → World → Prop} (h : Calls P f as w R) : CallsIn (FR ro) n P f as w R := by
  cases ro with
  | none => exact callsIn_wide.2 h
  | some l => exact CallsIn.inRound l (callsIn_wide.2 h)

theorem rep_append {g : Gh} {w : World} {xs ys : List V} {as bs : Array Value} (h1 : xs.length = as.size) (h2 : ys.length = bs.size) (g1 : ∀ (i : Nat) x y, xs[i]? = some x → as[i]? = some y → Rep g w x y)
    (g2 : ∀ (i : Nat) x y, ys[i]? = some x → bs[i]? = some y → Rep g w x y) : (xs ++ ys).length = (as ++ bs).size ∧ ∀ (i : Nat) x y, (xs ++ ys)[i]? = some x → (as ++ bs)[i]? = some y → Rep g w x y := by
  refine ⟨by simp [h1, h2], fun i x y hx hy => ?_⟩
  by_cases hi : i < xs.length
  · rw [List.getElem?_append_left hi] at hx
    rw [Array.getElem?_append_left (by omega)] at hy
    exact g1 i x y hx hy
  · rw [List.getElem?_append_right (by omega)] at hx
    rw [Array.getElem?_append_right (by omega), ← h1] at hy
    exact g2 _ x y hx hy

theorem frozenOf_rep {g : Gh} {w : World} {xs : List V} {v : Value} (h : Rep g w (.sl false xs.length (fun i => xs.getD i .bad)) v) (hc : xs = [] → ∃ a, v = .slice a 0 0) : Rep g w (frozenOf xs) v := by
  cases xs with
  | nil =>
    obtain ⟨a, rfl⟩ := hc rfl
    exact .sl0 _ _ _ _ (fun _ => rfl)
  | cons x r => exact h

theorem eq_nil_run {t e : TypeId} (hu : P.underlying t = some (.slice e)) (a : Option Addr) (n c : Nat) (w : World) : (Op.equal t (.slice a n c) (.slice none 0 0)).run P w = .ok a.isNone w := by
  unfold Op.equal Op.maxDepth
  unfold Op.equalIn
  simp only [Sem.run_bind, run_underlying hu, Result.andThen]
  cases a <;> rfl

theorem effW_sound (htt : TTok P tt) {ro : Option Nat} {N : Nat} {g : Gh} {w : World} {T : Env} {H : Heap} {ds : List Nat} {a : Act} {ctx : Ctx} {o : Oper} {K : V → Heap → Prop} (hg : Good N g w T H ds a) (hc : ctxOk a.tmps ctx)
    (h : effW P tt T ctx o.op H K) {next : Act → World → Prop} {R : Exit → Act → World → Prop}
    (hn : ∀ x H' g' w' v, K x H' → SR g' w' H' → Rep g' w' x v → Ext g w g' w' → next (a.put o.dst v) w') : o.wpIn (FR ro) 0 P a w next R := by
  obtain ⟨dst, op, type, pos, after, guard⟩ := o
  simp only at h hn ⊢
  have htr := hg.tr
  have hsr := hg.sr
  unfold effW at h
  split at h
  · -- a call
    rename_i f args atys
    obtain ⟨fid, xs, ys, cs, hf, hx, hcall⟩ := h
    obtain ⟨fs, cap, hfv, l1, l2, g1, g2⟩ := (evalO_rep htr hc hf).fnE
    obtain ⟨l3, g3⟩ := evalL_array htr hc hx
    obtain ⟨henter, hcalls⟩ := hcall
    refine ⟨fun _ _ => trivial, ?_⟩
    rw [semAt_of (by simp)]
    have hrun : (execOp a.eval ⟨dst, .call ⟨.value f, args, atys⟩, type, pos, after, guard⟩).run P w = .ok (.enter fid (fs ++ args.map a.eval ++ cap)) w := by
      simp only [execOp, resolve, hfv, Deferred.ofValue, Sem.run_bind, Sem.run_pure, Result.andThen, invoke, henter]
    rw [hrun]
    refine ⟨fun h => by simp [FR, Fence.wide] at h, callsIn_FR ?_⟩
    obtain ⟨l4, g4⟩ := rep_append l1 l3 g1 g3
    obtain ⟨l5, g5⟩ := rep_append l4 l2 g4 g2
    refine (hcalls g w _ hsr l5 g5).mono ?_
    rintro e w' ⟨v, r, g', H', rfl, hr, hs, hx, hq⟩
    exact hn r H' g' w' v hq hs hr hx
  · -- append
    rename_i args tys
    obtain ⟨s, x, t, t', e, e', te, es, ys, hev, rfl, ⟨q1, q2, q3, ht⟩, ⟨p1, p2, p3, ht'⟩, hte, hz, hes, hys, hb, h63, hk⟩ := h
    obtain ⟨u1, u2, hu, r1, r2⟩ := args2 htr hc hev
    obtain ⟨v, w', g', hrun, hrep, hsr', hext⟩ := append_sound (ty := type) htt hsr (htt.facts ht).under (htt.facts ht').under hte hz r1 r2 hes hys hb h63
    refine wpIn_value (by simp) (v := v) (w' := w') ?_ (hn _ _ g' w' v hk hsr' hrep hext)
    simp only [execOp, resolve, Sem.run_bind, Sem.run_pure, Result.andThen, invoke, builtin, hu]
    rw [hrun]
  · -- alloc
    rename_i t
    obtain ⟨e, ht, hnt, hk⟩ := h
    obtain ⟨⟨i, hi, _, _, zv, hz, hzv⟩, _⟩ := htt.facts ht
    obtain ⟨w', g', hrun, hrep, hsr', hext⟩ := newVar_sound (P := P) (t := t) hsr (ofConst_rep hzv) hnt
    refine wpIn_value (by simp) (w' := w') ?_ (hn _ _ g' w' _ hk hsr' hrep hext)
    have hz' : (zeroValue t).run P w = .ok zv w := by simp [zeroValue, typeInfo, hi, hz]
    simp only [execOp, Instr.alloc, Sem.run_bind, hz', Result.andThen, hrun, Sem.run_pure]
  · -- box
    rename_i t x
    obtain ⟨v, hv, hnt, hk⟩ := h
    obtain ⟨w', g', hrun, hrep, hsr', hext⟩ := newVar_sound (P := P) (t := t) hsr (evalO_rep htr hc hv) hnt
    refine wpIn_value (by simp) (w' := w') ?_ (hn _ _ g' w' _ hk hsr' hrep hext)
    simp only [execOp, Instr.box, Sem.run_bind, Result.andThen, hrun, Sem.run_pure]
  · -- load
    rename_i t x
    obtain ⟨l, i, o, k, es, y, v, e, hx, hl, hy, ht, hlv, hk⟩ := h
    obtain ⟨u, hrun, hrep⟩ := load_sound htt hsr ht hl hy (evalO_rep htr hc hx) hlv
    refine wpIn_value (by simp) (w' := w) ?_ (hn _ _ g w u hk hsr hrep (Ext.refl g w))
    simp only [execOp, Sem.run_bind, Result.andThen, hrun, Sem.run_pure]
  · -- store
    rename_i t p x
    obtain ⟨l, i, o, k, es, y, v, y', e, hp, hx, hl, hy, ht, hsz, hsv, hk⟩ := h
    obtain ⟨w', hrun, hsr', hext⟩ := store_sound htt hsr ht hl hy (evalO_rep htr hc hp) (evalO_rep htr hc hx) hsz hsv
    refine wpIn_skip' (by simp) (w' := w') ?_ (hn _ _ g w' undef hk hsr' (.tup [] #[] rfl (by simp)) hext)
    simp only [execOp, Sem.run_bind, Result.andThen, hrun, Sem.run_pure]
  · -- a slice literal
    rename_i t n parts
    obtain ⟨xs, hxs, hk⟩ := h
    obtain ⟨e, te, cs, c, rfl, ⟨z1, z2, z3, htt0⟩, hnt, hte, hsz, hrun, hrep⟩ := run_buildSlice (w := w) htt htr hc hxs
    have hex : (execOp a.eval ⟨dst, .buildSlice t xs.length parts, type, pos, after, guard⟩).run P w = .ok (.value (.slice (some ⟨w.heap.size, 0, none⟩) xs.length xs.length)) (w.alloc (.cells cs e)) := by
      simp only [execOp, Sem.run_bind, Result.andThen, hrun, Sem.run_pure]
    rcases hk with hk | ⟨e1, te1, q1, q2, q3, ht, hte1, hk⟩
    · obtain ⟨s1, s2, s3⟩ := hsr.newFrozen (t := e) (cs := cs) (k := te.size) (cap := xs.length) (n := xs.length) (fun i => xs.getD i .bad) c
        (fun i hi => by
          have := hrep i xs[i] (List.getElem?_eq_getElem hi)
          simpa [List.getD, List.getElem?_eq_getElem hi] using this) hsz (Nat.le_refl _) (fun i hi => by
          rw [List.getD_eq_getElem?_getD, List.getElem?_eq_getElem hi]; exact hnt _ (List.getElem_mem hi))
      refine wpIn_value (by simp) hex (hn _ _ _ _ _ hk s1 (frozenOf_rep s3 (fun h0 => ⟨some ⟨w.heap.size, 0, none⟩, by simp [h0]⟩)) s2)
    · have : e1 = e ∧ te1 = te := by
        rw [ht] at htt0; cases htt0
        rw [hte] at hte1; cases hte1
        exact ⟨rfl, rfl⟩
      obtain ⟨rfl, rfl⟩ := this
      obtain ⟨s1, s2, s3, _⟩ := hsr.newVec (t := e1) (cs := cs) (k := te1.size) (cap := xs.length) (xs := xs) c (fun i x hx => hrep i x hx) hsz (Nat.le_refl _) hnt
      exact wpIn_value (by simp) hex (hn _ _ _ _ _ hk s1 s3 s2)
  · -- held against nil
    rename_i t x yt
    obtain ⟨z, n, el, e, q1, q2, q3, hx, ht, hk⟩ := h
    obtain ⟨aa, cap, hv, hle, hzc⟩ := (evalO_rep htr hc hx).slE
    have hrx := evalO_rep htr hc hx
    have hu := (htt.facts ht).under
    refine wpIn_value (by simp) (v := .bool aa.isNone) (w' := w) ?_ (hn _ _ g w _ (hk aa.isNone ?_) hsr (.lit _ rfl) (Ext.refl g w))
    · simp only [execOp, Sem.run_bind, Result.andThen, hv]
      have h1 : (eqGuard .eql t x (.const (.slice none 0 0)) (.slice aa n cap) (a.eval (.const (.slice none 0 0)))).run P w = .ok () w := rfl
      rw [h1]
      simp only []
      have h2 : (binOp .eql t (.slice aa n cap) (a.eval (.const (.slice none 0 0)))).run P w = .ok (.bool aa.isNone) w := by
        change (binOp .eql t (.slice aa n cap) (.slice none 0 0)).run P w = _
        simp only [binOp, Sem.run_bind, eq_nil_run hu, Result.andThen]
        rfl
      rw [h2]
      rfl
    · intro hb
      rw [hv] at hrx
      cases aa with
      | some _ => simp at hb
      | none =>
        cases hrx with
        | sl0 => rfl
  · exact h.elim

theorem setO_tr {g : Gh} {w : World} {T : Env} {a : Act} {N : Nat} {o : Oper} {ctx : Ctx} {x : V} {v : Value} (h : TR g w T a.tmps) (hN : a.tmps.size = N) (hd : dstOk N o ctx = true)
    (h1 : ctxOk a.tmps ctx → Rep g w x v) (h2 : ¬ ctxOk a.tmps ctx → v = undef) : TR g w (T.setO o.dst (ctx, x)) (a.put o.dst v).tmps := h.put hN hd h1 h2

/-- **The region's walk is the machine's.** -/
theorem RWs_sound (htt : TTok P tt) {ro : Option Nat} {N : Nat} {ops : Array Oper} {ds : List Nat} : ∀ (is : List Nat) (T : Env) (H : Heap) (K : Env → Heap → Prop), RWs P tt N ops is T H K →
    ∀ g w a (R : Exit → Act → World → Prop), Good N g w T H ds a → (∀ T' H' g' w' a', K T' H' → Good N g' w' T' H' ds a' → Ext g w g' w' → R .normal a' w') → wpOpsIn (FR ro) 0 P ops R is a w
  | [], T, H, K, h, g, w, a, R, hg, hr => hr T H g w a h hg (Ext.refl g w)
  | i :: is, T0, H0, K, h, g0, w, a, R, hg0, hr0 => by
    obtain ⟨T, H, hgh, o, ctx, ho, hctx, hd, h⟩ := h
    obtain ⟨g, hg, hx0⟩ := hgh g0 w a ds hg0
    have hr : ∀ T' H' g' w' a', K T' H' → Good N g' w' T' H' ds a' → Ext g w g' w' → R .normal a' w' := fun T' H' g' w' a' hk hg' hx => hr0 T' H' g' w' a' hk hg' (hx0.trans hx)
    obtain ⟨hwf, hwant⟩ := ctxOf_spec hctx hg.tr
    have hiff := ctx_iff hg.tr hwf
    simp only [wpOpsIn, ho]
    have skip : gB T ctx = false → ∀ x, RWs P tt N ops is (T.setO o.dst (ctx, x)) H K → wpOpsIn (FR ro) 0 P ops R is (a.put o.dst undef) w := by
      intro hb x hrest
      have hnc : ¬ ctxOk a.tmps ctx := fun hc => by rw [hiff.1 hc] at hb; cases hb
      refine RWs_sound htt is _ H K hrest g w _ R (hg.step (Ext.refl g w) hg.sr (setO_tr hg.tr hg.sz hd (fun hc => absurd hc hnc) (fun _ => rfl)) (put_defers ..) (put_size ..)) hr
    by_cases hb : gB T ctx = true
    · have hc := hiff.2 hb
      rw [if_pos (hwant.2 hc)]
      rcases h with ⟨Cs, x, hp, hC, hrest⟩ | ⟨heff, _⟩
      · obtain ⟨v, hrun, hrep⟩ := pureOp_sound htt hg.tr hc hp (allP_mem (hC hb))
        refine wpIn_value (fun c e => by rw [e] at hp; simp [pureOp] at hp) hrun ?_
        exact RWs_sound htt is _ H K hrest g w _ R (hg.step (Ext.refl g w) hg.sr (setO_tr hg.tr hg.sz hd (fun _ => hrep) (fun hnc => absurd hc hnc)) (put_defers ..) (put_size ..)) hr
      · refine effW_sound htt hg hc (heff hb) ?_
        intro x H' g' w' v hrest hs hrep hx
        refine RWs_sound htt is _ H' K hrest g' w' _ R (hg.step hx hs (setO_tr (hg.tr.ext hx) hg.sz hd (fun _ => hrep) (fun hnc => absurd hc hnc)) (put_defers ..) (put_size ..)) ?_
        intro T2 H2 g2 w2 a2 hk hg2 hx2
        exact hr T2 H2 g2 w2 a2 hk hg2 (hx.trans hx2)
    · have hb' : gB T ctx = false := by simpa using hb
      have hnw : ¬ (Region.wanted o (yielded ops a.tmps) = true) := fun hw => hb (hiff.1 (hwant.1 hw))
      rw [if_neg hnw]
      refine ⟨fun _ _ => trivial, ?_⟩
      rcases h with ⟨Cs, x, hp, hC, hrest⟩ | ⟨_, hskip⟩
      · exact skip hb' x hrest
      · obtain ⟨y, hy⟩ := hskip hb'
        exact skip hb' y hy

/-- A region whose order is fixed. -/
theorem A_region (htt : TTok P tt) {ro : Option Nat} {N id : Nat} {ops : Array Oper} {T : Env} {H : Heap} {ds : List Nat} {Q : Exit → Env → Heap → List Nat → Prop}
    (h : RWs P tt N ops (List.range ops.size) T H (fun T' H' => Q .normal T' H' ds)) : AWP P ro N (.region id ops false) T H ds Q := by
  intro g w a R hg hr
  exact wpIn_region (RWs_sound htt _ T H _ h g w a R hg fun T' H' g' w' a' hk hg' hx => hr _ _ _ _ _ _ _ hk hg' hx)

end Go.Abs
