/- What the law AlignSums stands on: the framework, the given functions as plain functions, their walks, and the plain laws; part 2. -/
import Derived.Test.YtmnbomkkobifbaaAlignSumsZ1
set_option linter.unusedSimpArgs false
set_option linter.unusedVariables false
namespace Go.Abs
open Go Go.RowKit
variable {P : Program} {tt : TT} {ro : Option Nat} {N : Nat} {H : aR} {ds : List Nat}
variable {pl : Oper → Bool}
theorem GM {ops : Array Oper} {o : Oper} {T : PE} {next : PE → aR → Prop} (hk : ek pl o = 1) (h : OpD P tt N pl ops o T H next) :
    ∃ x, next (T.bO o.dst x) H ∧ ∀ (T' : PE) (H' : aR) (next' : PE → aR → Prop), cY H H' → vW T T' o.op.operands.toList → oL ops T' o = oL ops T o → next' (T'.bO o.dst x) H' → OpD P tt N pl ops o T' H' next' := by
  obtain ⟨hd, b, hb, h1, h2⟩ := h
  cases b with
  | false => exact ⟨.bad, h2 rfl, fun T' H' next' _ _ hg hn => ⟨hd, false, by rw [hg]; exact hb, ⟨fun h => by simp at h, fun _ => hn⟩⟩⟩
  | true =>
    rcases h1 rfl with ⟨Cs, x, a1, a2, a3⟩ | he
    · exact ⟨x, a3, fun T' H' next' _ ha hg hn => ⟨hd, true, by rw [hg]; exact hb, ⟨fun _ => .inl ⟨Cs, x, by rw [← uC ha]; exact a1, a2, hn⟩, fun h => by simp at h⟩⟩⟩
    · have hk1 : jK o.op = 1 := by
        unfold ek at hk; split at hk
        · cases hk
        · exact hk
      obtain ⟨hz, he2⟩ : clo pl ops o = false ∧ lH P tt (lift T) [] o.op H (fun x H' => (quiet pl o = true → cY H H') ∧ next (T.bO o.dst x) H') := by
        rcases he.2 with h3 | h3
        · exact h3
        · have := h3.2.ek; rw [hk1] at this; cases this
      obtain ⟨x, hx, hany⟩ := EX hk1 he2
      exact ⟨x, hx.2, fun T' H' next' hH ha hg hn => ⟨hd, true, by rw [hg]; exact hb, ⟨fun _ => .inr ⟨he.1, .inl ⟨hz, rE ha (hany _ _ hH ⟨fun hq => absurd hq (by simp [SE hk1]), hn⟩)⟩⟩, fun h => by simp at h⟩⟩⟩

theorem SC {ops : Array Oper} {oi oj : Oper} {T : PE} {next : PE → aR → Prop} (hap : oj.apart ops oi = true) (hki : ek pl oi = 1) (hkj : ek pl oj = 1)
    (h : OpD P tt N pl ops oj T H (fun T1 H1 => OpD P tt N pl ops oi T1 H1 next)) : OpD P tt N pl ops oi T H (fun T1 H1 => OpD P tt N pl ops oj T1 H1 next) := by
  obtain ⟨h1, h2, h3⟩ := Oper.apart_spec hap
  obtain ⟨xj, hj, anyj⟩ := GM hkj h
  obtain ⟨xi, hi, anyi⟩ := GM hki hj
  have aj : vW T (T.bO oj.dst xj) oi.op.operands.toList := qZ (fun e he => h1 e he)
  refine anyi T H _ (cY.refl H) (fun x hx t ht => (aj x hx t ht).symm) (nQ (fun e he => h1 e he)).symm ?_
  refine anyj (T.bO oi.dst xi) H _ (cY.refl H) (qZ (fun e he => h3 e he)) (nQ (fun e he => h3 e he)) ?_
  rw [PE.KC T xi xj (fun a ha hb => h2 a hb ha)]
  exact hi

theorem RF {ops : Array Oper} {oi oj : Oper} {T : PE} {next : PE → aR → Prop} (hap : oj.apart ops oi = true) (hki : quiet pl oi = true ∨ clo pl ops oi = true) (hkj : ek pl oj = 1)
    (h : OpD P tt N pl ops oj T H (fun T1 H1 => OpD P tt N pl ops oi T1 H1 next)) : OpD P tt N pl ops oi T H (fun T1 H1 => OpD P tt N pl ops oj T1 H1 next) := by
  obtain ⟨h1, h2, h3⟩ := Oper.apart_spec hap
  obtain ⟨xj, hj, anyj⟩ := GM hkj h
  rw [BB (fun e he => h1 e he) (fun a ha hb => h2 a ha hb)] at hj
  obtain ⟨hd, b, hb, g1, g2⟩ := hj
  have key : ∀ x H', cY H H' → next ((T.bO oi.dst x).bO oj.dst xj) H' → OpD P tt N pl ops oj (T.bO oi.dst x) H' next := fun x H' hH hx =>
    anyj (T.bO oi.dst x) H' _ hH (qZ (fun e he => h3 e he)) (nQ (fun e he => h3 e he)) hx
  refine ⟨hd, b, hb, fun hh => ?_, fun hh => key _ _ (cY.refl H) (g2 hh)⟩
  rcases g1 hh with ⟨Cs, x, a1, a2, a3⟩ | he
  · exact .inl ⟨Cs, x, a1, a2, key _ _ (cY.refl H) a3⟩
  · rcases he with ⟨he, ⟨hz, h3⟩ | ⟨hz, h3⟩⟩
    · have hki := hki.resolve_right (by rw [hz]; decide)
      exact .inr ⟨he, .inl ⟨hz, jR (fun x H' hx => ⟨hx.1, key _ _ (hx.1 hki) hx.2⟩) h3⟩⟩
    · exact .inr ⟨he, .inr ⟨hz, h3.map (fun _ _ _ _ => rfl) fun _ _ e => key _ _ e⟩⟩

theorem HV {ops : Array Oper} {o : Oper} {T : PE} {next : PE → aR → Prop} (h : OpD P tt N pl ops o T H next) : OpD P tt N pl ops o T H (fun T1 H1 => (∃ x, T1 = T.bO o.dst x) ∧ next T1 H1) := by
  obtain ⟨hd, b, hb, g1, g2⟩ := h
  refine ⟨hd, b, hb, fun hh => ?_, fun hh => ⟨⟨_, rfl⟩, g2 hh⟩⟩
  rcases g1 hh with ⟨Cs, x, a1, a2, a3⟩ | he
  · exact .inl ⟨Cs, x, a1, a2, ⟨_, rfl⟩, a3⟩
  · rcases he with ⟨he, ⟨hz, h3⟩ | ⟨hz, h3⟩⟩
    · exact .inr ⟨he, .inl ⟨hz, jR (fun x H' hx => ⟨hx.1, ⟨_, rfl⟩, hx.2⟩) h3⟩⟩
    · exact .inr ⟨he, .inr ⟨hz, h3.map (fun _ _ _ _ => rfl) fun _ _ _ hx => ⟨⟨_, rfl⟩, hx⟩⟩⟩

theorem VT {ops : Array Oper} {oi oj : Oper} {T : PE} {next : PE → aR → Prop} (hap : oj.apart ops oi = true) (hki : clo pl ops oi = true) (hni : nF oi.op = true) (hkj : clo pl ops oj = true) (hnj : kB oj.op = true)
    (h : OpD P tt N pl ops oj T H (fun T1 H1 => OpD P tt N pl ops oi T1 H1 next)) : OpD P tt N pl ops oi T H (fun T1 H1 => OpD P tt N pl ops oj T1 H1 next) := by
  obtain ⟨h1, h2, h3⟩ := Oper.apart_spec hap
  have hpd : ∀ (T : PE), qB tt T oi.op = none := by
    intro T
    unfold nF at hni
    split at hni
    · rename_i he; rw [he]; rfl
    · cases hni
  have hpj : ∀ (T : PE), qB tt T oj.op = none := by
    intro T
    unfold kB at hnj
    split at hnj
    · rename_i he; rw [he]; rfl
    · cases hnj
  have hnj' : nF oj.op = false := by
    unfold kB at hnj
    split at hnj
    · rename_i he; rw [he]; rfl
    · cases hnj
  have hni' : kB oi.op = false := by
    unfold nF at hni
    split at hni
    · rename_i he; rw [he]; rfl
    · cases hni
  obtain ⟨hd, b, hb, g1, g2⟩ := h
  have put : ∀ x H', OpD P tt N pl ops oi (T.bO oj.dst x) H' next → OpD P tt N pl ops oi T H' (fun T' H' => next (T'.bO oj.dst x) H') := fun x H' hx => (BB (fun e he => h1 e he) (fun a ha hb => h2 a ha hb)).1 hx
  cases b with
  | false =>
    refine zA (fun T' H' hx => ?_) (HV (put _ _ (g2 rfl)))
    obtain ⟨⟨y, rfl⟩, hx⟩ := hx
    exact ⟨hd, false, by rw [nQ (fun e he => h3 e he)]; exact hb, fun h => (by cases h), fun _ => hx⟩
  | true =>
    rcases g1 rfl with ⟨Cs, x, a1, _⟩ | ⟨hek, ⟨hz, _⟩ | ⟨_, hc⟩⟩
    · rw [hpj] at a1; cases a1
    · rw [hkj] at hz; cases hz
    · rcases hc with ⟨hk, _⟩ | ⟨_, x, hr, hn⟩
      · rw [hnj'] at hk; cases hk
      have mk : ∀ y H', cY H H' → (∀ H5, cY H' H5 → next ((T.bO oi.dst y).bO oj.dst x) H5) → OpD P tt N pl ops oj (T.bO oi.dst y) H' next := fun y H' e hx =>
        ⟨hd, true, by rw [nQ (fun e he => h3 e he)]; exact hb, fun _ => .inr ⟨hek, .inr ⟨hkj, .inr ⟨hnj, x, fun H3 e3 => rE (qZ (fun e he => h3 e he)) (hr H3 (e.trans e3)), fun H5 e5 => hx H5 e5⟩⟩⟩, fun h => (by cases h)⟩
      obtain ⟨hdi, bi, hbi, i1, i2⟩ := put _ _ (hn H (cY.refl H))
      cases bi with
      | false =>
        refine ⟨hdi, false, hbi, fun h => (by cases h), fun _ => mk _ _ (cY.refl H) fun H5 e5 => ?_⟩
        obtain ⟨_, b', hb', _, j2⟩ := put _ _ (hn H5 e5)
        rw [hbi] at hb'; cases hb'
        exact j2 rfl
      | true =>
        rcases i1 rfl with ⟨Cs, y, a1, _⟩ | ⟨heki, ⟨hz, _⟩ | ⟨_, hc⟩⟩
        · rw [hpd] at a1; cases a1
        · rw [hki] at hz; cases hz
        · rcases hc with ⟨_, hc⟩ | ⟨hk, _⟩
          · exact ⟨hdi, true, hbi, fun _ => .inr ⟨heki, .inr ⟨hki, .inl ⟨hni, fun H1 e1 => jR (fun y H2 hx => ⟨hx.1, fun H' e => mk y H' (e1.trans (hx.1.trans e)) fun H5 e5 => hx.2 H5 (e.trans e5)⟩) (hc H1 e1)⟩⟩⟩, fun h => (by cases h)⟩
          · rw [hni'] at hk; cases hk

theorem RU {T : Env} {ctx : Ctx} {op : Op} {H5 : aR} {K K5 : V → aR → Prop} (hk : jK op = 1) (he : lH P tt T ctx op H K) (he5 : lH P tt T ctx op H5 K5) (hx : cY H H5) : ∃ x, K x H ∧ K5 x H5 := by
  unfold lH at he he5
  split at he <;> (try (simp [jK] at hk; done))
  · obtain ⟨l, i, o, k, es, y, v, e, h1, h2, h3, h4, h5, h6⟩ := he
    obtain ⟨l', i', o', k', es', y', v', e', g1, g2, g3, g4, g5, g6⟩ := he5
    rw [h1] at g1; cases g1
    rw [hx.at h2] at g2; cases g2
    rw [h3] at g3; cases g3
    rw [h4] at g4; cases g4
    rw [h5] at g5; cases g5
    exact ⟨v, h6, g6⟩

theorem NT {T : PE} {o : Oper} {Cs : List Prop} {x : V} {K : V → aR → Prop} (hk : jK o.op = 1) (hp : qB tt T o.op = some (Cs, x)) (he : lH P tt (lift T) [] o.op H K) : False := by
  unfold lH at he
  split at he <;> (try (first | exact he | (rename_i hh; rw [hh] at hk; simp [jK] at hk; done)))
  · rename_i hh
    obtain ⟨l, i, o', k, es, y, v, e, h1, _⟩ := he
    rw [hh] at hp
    simp [qB, zE, bZ, h1] at hp

theorem UZ {ops : Array Oper} {oi oj : Oper} {T : PE} {next : PE → aR → Prop} (hap : oj.apart ops oi = true) (hki : ek pl oi = 1) (hkj : clo pl ops oj = true) (hnj : kB oj.op = true)
    (h : OpD P tt N pl ops oj T H (fun T1 H1 => OpD P tt N pl ops oi T1 H1 next)) : OpD P tt N pl ops oi T H (fun T1 H1 => OpD P tt N pl ops oj T1 H1 next) := by
  obtain ⟨h1, h2, h3⟩ := Oper.apart_spec hap
  have hpj : ∀ (T : PE), qB tt T oj.op = none := by
    intro T
    unfold kB at hnj
    split at hnj
    · rename_i he; rw [he]; rfl
    · cases hnj
  have hnj' : nF oj.op = false := by
    unfold kB at hnj
    split at hnj
    · rename_i he; rw [he]; rfl
    · cases hnj
  have hk1 : jK oi.op = 1 := by
    unfold ek at hki; split at hki
    · cases hki
    · exact hki
  obtain ⟨hd, b, hb, g1, g2⟩ := h
  have put : ∀ x H', OpD P tt N pl ops oi (T.bO oj.dst x) H' next → OpD P tt N pl ops oi T H' (fun T' H' => next (T'.bO oj.dst x) H') := fun x H' hx => (BB (fun e he => h1 e he) (fun a ha hb => h2 a ha hb)).1 hx
  cases b with
  | false =>
    refine zA (fun T' H' hx => ?_) (HV (put _ _ (g2 rfl)))
    obtain ⟨⟨y, rfl⟩, hx⟩ := hx
    exact ⟨hd, false, by rw [nQ (fun e he => h3 e he)]; exact hb, fun h => (by cases h), fun _ => hx⟩
  | true =>
    rcases g1 rfl with ⟨Cs, x, a1, _⟩ | ⟨hek, ⟨hz, _⟩ | ⟨_, hc⟩⟩
    · rw [hpj] at a1; cases a1
    · rw [hkj] at hz; cases hz
    · rcases hc with ⟨hk, _⟩ | ⟨_, x, hr, hn⟩
      · rw [hnj'] at hk; cases hk
      have mk : ∀ y, (∀ H5, cY H H5 → next ((T.bO oi.dst y).bO oj.dst x) H5) → OpD P tt N pl ops oj (T.bO oi.dst y) H next := fun y hx =>
        ⟨hd, true, by rw [nQ (fun e he => h3 e he)]; exact hb, fun _ => .inr ⟨hek, .inr ⟨hkj, .inr ⟨hnj, x, fun H3 e3 => rE (qZ (fun e he => h3 e he)) (hr H3 e3), fun H5 e5 => hx H5 e5⟩⟩⟩, fun h => (by cases h)⟩
      obtain ⟨hdi, bi, hbi, i1, i2⟩ := put _ _ (hn H (cY.refl H))
      cases bi with
      | false =>
        refine ⟨hdi, false, hbi, fun h => (by cases h), fun _ => mk _ fun H5 e5 => ?_⟩
        obtain ⟨_, b', hb', _, j2⟩ := put _ _ (hn H5 e5)
        rw [hbi] at hb'; cases hb'
        exact j2 rfl
      | true =>
        have at5 : ∀ H5, cY H H5 → (∃ Cs y, qB tt T oi.op = some (Cs, y) ∧ next ((T.bO oi.dst y).bO oj.dst x) H5) ∨ lH P tt (lift T) [] oi.op H5 (fun y H' => H' = H5 ∧ next ((T.bO oi.dst y).bO oj.dst x) H5) := by
          intro H5 e5
          obtain ⟨_, b', hb', j1, _⟩ := put _ _ (hn H5 e5)
          rw [hbi] at hb'; cases hb'
          rcases j1 rfl with ⟨Cs, y, a1, _, a3⟩ | ⟨_, ⟨_, he⟩ | ⟨_, hc⟩⟩
          · exact .inl ⟨Cs, y, a1, a3⟩
          · obtain ⟨y, hy, any⟩ := EX hk1 he
            exact .inr (any H5 _ (cY.refl H5) ⟨rfl, hy.2⟩)
          · have := hc.ek; rw [hk1] at this; cases this
        rcases i1 rfl with ⟨Cs, y, a1, a2, a3⟩ | ⟨heki, ⟨hz, he⟩ | ⟨_, hc⟩⟩
        · refine ⟨hdi, true, hbi, fun _ => .inl ⟨Cs, y, a1, a2, mk _ fun H5 e5 => ?_⟩, fun h => (by cases h)⟩
          rcases at5 H5 e5 with ⟨Cs', y', b1, b3⟩ | he5
          · rw [a1] at b1; cases b1; exact b3
          · exact (NT hk1 a1 he5).elim
        · obtain ⟨y, hy, any⟩ := EX hk1 he
          refine ⟨hdi, true, hbi, fun _ => .inr ⟨heki, .inl ⟨hz, any H _ (cY.refl H) ⟨fun _ => cY.refl H, mk _ fun H5 e5 => ?_⟩⟩⟩, fun h => (by cases h)⟩
          rcases at5 H5 e5 with ⟨Cs', y', b1, b3⟩ | he5
          · exact (NT hk1 b1 he).elim
          · have he0 := any H (fun z _ => z = y) (cY.refl H) rfl
            obtain ⟨z, rfl, _, hz2⟩ := RU hk1 he0 he5 e5
            exact hz2
        · have := hc.ek; rw [hk1] at this; cases this

def yV (pl : Oper → Bool) (ops : Array Oper) (oj oi : Oper) : Bool :=
  oj.apart ops oi && (Nat.beq (ek pl oi) 0 || Nat.beq (ek pl oj) 0 || (Nat.beq (ek pl oi) 1 && Nat.beq (ek pl oj) 1) || ((quiet pl oi || clo pl ops oi) && Nat.beq (ek pl oj) 1) || (clo pl ops oi && nF oi.op && clo pl ops oj && kB oj.op) || (Nat.beq (ek pl oi) 1 && clo pl ops oj && kB oj.op))

theorem front {ops : Array Oper} {i : Nat} {oi : Oper} (hi : ops[i]? = some oi) {rest : List Nat} {K : PE → aR → Prop} :
    ∀ (js : List Nat), (∀ j ∈ js, ∀ oj, ops[j]? = some oj → yV pl ops oj oi = true) → ∀ (T : PE) (H : aR), (ek pl oi = 0 → pP tt N ops oi T) →
      RD P tt N pl ops (js ++ i :: rest) T H K → RD P tt N pl ops (i :: (js ++ rest)) T H K := by
  intro js
  induction js with
  | nil => intro _ T H _ h; exact h
  | cons j js ih =>
    intro hj T H hK h
    obtain ⟨oj, ho, h⟩ := h
    have hp := hj j (List.mem_cons_self ..) oj ho
    simp only [yV, Bool.and_eq_true, Bool.or_eq_true] at hp
    obtain ⟨hap, hkinds⟩ := hp
    obtain ⟨h1, h2, h3⟩ := Oper.apart_spec hap
    have h' : OpD P tt N pl ops oj T H (fun T1 H1 => OpD P tt N pl ops oi T1 H1 (fun T2 H2 => RD P tt N pl ops (js ++ rest) T2 H2 K)) := by
      refine zA ?_ (HV h)
      rintro T1 H1 ⟨⟨x, rfl⟩, hr⟩
      obtain ⟨o', ho', hr'⟩ := ih (fun k hk => hj k (List.mem_cons_of_mem _ hk)) _ H1 (fun hk => (pP.put (fun e he => h1 e he)).2 (hK hk)) hr
      rw [hi] at ho'; cases ho'
      exact hr'
    refine ⟨oi, hi, ?_⟩
    have fin : OpD P tt N pl ops oi T H (fun T1 H1 => OpD P tt N pl ops oj T1 H1 (fun T2 H2 => RD P tt N pl ops (js ++ rest) T2 H2 K)) := by
      rcases hkinds with ((((hk | hk) | ⟨hk1, hk2⟩) | ⟨hk1, hk2⟩) | ⟨⟨⟨hk1, hk2⟩, hk3⟩, hk4⟩) | ⟨⟨hk1, hk2⟩, hk3⟩
      · have hk := Nat.eq_of_beq_eq_true hk
        exact VJ hap hk (hK hk) h'
      · exact WA hap (Nat.eq_of_beq_eq_true hk) h'
      · exact SC hap (Nat.eq_of_beq_eq_true hk1) (Nat.eq_of_beq_eq_true hk2) h'
      · exact RF hap hk1 (Nat.eq_of_beq_eq_true hk2) h'
      · exact VT hap hk1 hk2 hk3 hk4 h'
      · exact UZ hap (Nat.eq_of_beq_eq_true hk1) hk2 hk3 h'
    exact zA (fun T1 H1 hx => ⟨oj, ho, hx⟩) fin

theorem VO (htt : eE P tt) {ops : Array Oper} {i : Nat} {oi : Oper} (hi : ops[i]? = some oi) (hk : ek pl oi = 0) {rest : List Nat} {K : PE → aR → Prop} :
    ∀ (js : List Nat), (∀ j ∈ js, ∀ oj, ops[j]? = some oj → yV pl ops oj oi = true) → ∀ (T : PE) (H : aR) (g : Gh) (w : World) (a : Act), Good N g w (lift T) H ds a →
      RD P tt N pl ops (js ++ i :: rest) T H K → pP tt N ops oi T := by
  intro js
  induction js with
  | nil =>
    rintro _ T H g w a _ ⟨o, ho, h⟩
    rw [hi] at ho; cases ho
    exact OpD.known hk h
  | cons j js ih =>
    rintro hj T H g w a hg ⟨oj, ho, h⟩
    have hp := hj j (List.mem_cons_self ..) oj ho
    simp only [yV, Bool.and_eq_true] at hp
    obtain ⟨h1, h2, h3⟩ := Oper.apart_spec hp.1
    obtain ⟨T1, H1, g1, w1, a1, ⟨⟨x, rfl⟩, hr⟩, hg1⟩ := NZ htt ho (HV h) hg
    exact (pP.put (fun e he => h1 e he)).1 (ih (fun k hk' => hj k (List.mem_cons_of_mem _ hk')) _ H1 g1 w1 a1 hg1 hr)

def reach (ops : Array Oper) : Nat → Nat → Nat → Bool
  | 0, _, _ => false
  | n + 1, i, j => match ops[i]? with
    | some o => (o.after.any fun e => Region.binds .any e && Nat.beq e.on j) || (o.after.any fun e => Region.binds .any e && (Nat.blt j e.on && reach ops n e.on j))
    | none => false

def NX (pl : Oper → Bool) (ops : Array Oper) : Bool :=
  (List.range ops.size).all fun i => match ops[i]? with
    | some oi => (oi.after.all fun e => !Region.binds .any e || Nat.blt e.on i) && (List.range i).all fun j => (match ops[j]? with
      | some oj => yV pl ops oj oi
      | none => true) || reach ops ops.size i j
    | none => true

theorem EC {ops : Array Oper} {listed : Array Bool} (hcl : ∀ (k : Nat) o, ops[k]? = some o → listed.getD k false = true → ∀ e ∈ o.after, Region.binds .any e = true → listed.getD e.on false = true) :
    ∀ (n i j : Nat) o, ops[i]? = some o → (∀ e ∈ o.after, Region.binds .any e = true → listed.getD e.on false = true) → reach ops n i j = true → listed.getD j false = true
  | 0, i, j, o, _, _, h => by simp [reach] at h
  | n + 1, i, j, o, ho, hl, h => by
    simp only [reach, ho] at h
    rw [Bool.or_eq_true] at h
    rcases h with h | h
    · obtain ⟨e, he, hb⟩ := Array.any_eq_true'.1 h
      simp only [Bool.and_eq_true] at hb
      rw [← Nat.eq_of_beq_eq_true hb.2]; exact hl e he hb.1
    · obtain ⟨e, he, hb⟩ := Array.any_eq_true'.1 h
      simp only [Bool.and_eq_true] at hb
      have hon := hl e he hb.1
      have h1 := hb.2.2
      cases hoe : ops[e.on]? with
      | none => cases n <;> simp [reach, hoe] at h1
      | some o' => exact EC hcl n e.on j o' hoe (hcl _ o' hoe hon) h1

structure Left (ops : Array Oper) (listed : Array Bool) (L : List Nat) : Prop where
  size : listed.size = ops.size
  mem : ∀ i, i ∈ L ↔ (i < ops.size ∧ listed.getD i false = false)
  sorted : L.Pairwise (· < ·)
  closed : ∀ (k : Nat) o, ops[k]? = some o → listed.getD k false = true → ∀ e ∈ o.after, Region.binds .any e = true → listed.getD e.on false = true

theorem TN (htt : eE P tt) {ops : Array Oper} (hok : NX pl ops = true) {K : PE → aR → Prop} {R : Exit → Act → World → Prop} :
    ∀ (fuel : Nat) (L : List Nat) (listed : Array Bool), L.length = fuel → Left ops listed L → ∀ (T : PE) (H : aR) (g : Gh) (w : World) (a : Act), Good N g w (lift T) H ds a → RD P tt N pl ops L T H K →
      (∀ T' H' g' w' a', K T' H' → Good N g' w' (lift T') H' ds a' → Ext g w g' w' → R .normal a' w') → wpAnyIn (FR ro) 0 P .any ops R fuel listed a w := by
  have hpair : ∀ (i j : Nat) oi oj, ops[i]? = some oi → ops[j]? = some oj → j < i → reach ops ops.size i j = false → yV pl ops oj oi = true := by
    intro i j oi oj hi hj hlt hr
    have := List.all_eq_true.1 hok i (List.mem_range.2 (Array.getElem?_eq_some_iff.1 hi).1)
    simp only [hi, Bool.and_eq_true] at this
    have h2 := List.all_eq_true.1 this.2 j (List.mem_range.2 hlt)
    simpa [hr, hj] using h2
  have hafter : ∀ (i : Nat) oi, ops[i]? = some oi → ∀ e ∈ oi.after, Region.binds .any e = true → e.on < i := by
    intro i oi hi e he hb
    have := List.all_eq_true.1 hok i (List.mem_range.2 (Array.getElem?_eq_some_iff.1 hi).1)
    simp only [hi, Bool.and_eq_true] at this
    have h2 := Array.all_eq_true_iff_forall_mem.1 this.1 e he
    simp only [hb, Bool.not_true, Bool.false_or] at h2
    exact Nat.le_of_ble_eq_true h2
  intro fuel
  induction fuel with
  | zero =>
    intro L listed hL hleft T H g w a hg h hr
    have : L = [] := List.length_eq_zero_iff.1 hL
    subst this
    refine ⟨?_, hr T H g w a h hg (Ext.refl g w)⟩
    rw [List.eq_nil_iff_forall_not_mem]
    intro i hi
    obtain ⟨h0, o, ho, _⟩ := mem_ready.1 hi
    have hlt := (Array.getElem?_eq_some_iff.1 ho).1
    have : i ∈ ([] : List Nat) := (hleft.mem i).2 ⟨hlt, by
      rw [Array.getD_eq_getD_getElem?] at h0 ⊢
      rw [Array.getElem?_eq_getElem (by rw [hleft.size]; exact hlt)] at h0 ⊢
      simpa using h0⟩
    cases this
  | succ fuel ih =>
    intro L listed hL hleft T H g w a hg h hr
    refine ⟨fun hnil => ?_, fun i hi => ?_⟩
    · -- the least that is left is ready
      cases L with
      | nil => simp at hL
      | cons i L =>
        exfalso
        obtain ⟨hlt, hun⟩ := (hleft.mem i).1 (List.mem_cons_self ..)
        have hri : i ∈ Region.ready .any ops listed := by
          refine mem_ready.2 ⟨?_, ops[i], Array.getElem?_eq_getElem hlt, fun e he hb => ?_⟩
          · rw [Array.getD_eq_getD_getElem?] at hun ⊢
            rw [Array.getElem?_eq_getElem (by rw [hleft.size]; exact hlt)] at hun ⊢
            simpa using hun
          · have hlt' := hafter i _ (Array.getElem?_eq_getElem hlt) e he hb
            cases hx : listed.getD e.on false with
            | true => rfl
            | false =>
              have hm := (hleft.mem e.on).2 ⟨by omega, hx⟩
              rcases List.mem_cons.1 hm with he' | hm'
              · omega
              · have := (List.pairwise_cons.1 hleft.sorted).1 _ hm'; omega
        rw [hnil] at hri; cases hri
    · obtain ⟨h0, oi, hoi, hall⟩ := mem_ready.1 hi
      have hlt := (Array.getElem?_eq_some_iff.1 hoi).1
      have hun : listed.getD i false = false := by
        rw [Array.getD_eq_getD_getElem?] at h0 ⊢
        rw [Array.getElem?_eq_getElem (by rw [hleft.size]; exact hlt)] at h0 ⊢
        simpa using h0
      obtain ⟨js, rest, rfl⟩ := List.append_of_mem ((hleft.mem i).2 ⟨hlt, hun⟩)
      have hsorted := hleft.sorted
      rw [List.pairwise_append] at hsorted
      obtain ⟨hs1, hs2, hs3⟩ := hsorted
      have hjs : ∀ j ∈ js, ∀ oj, ops[j]? = some oj → yV pl ops oj oi = true := by
        intro j hj oj hoj
        have hji : j < i := hs3 j hj i (List.mem_cons_self ..)
        refine hpair i j oi oj hoi hoj hji ?_
        cases hre : reach ops ops.size i j with
        | false => rfl
        | true =>
          have hl := EC hleft.closed _ i j oi hoi hall hre
          have := ((hleft.mem j).1 (List.mem_append_left _ hj)).2
          rw [hl] at this; cases this
      obtain ⟨o', ho', hstep⟩ := front hoi js hjs T H (fun hk => VO htt hoi hk js hjs T H g w a hg h) h
      rw [hoi] at ho'; cases ho'
      refine JW htt hoi hstep hg ?_
      intro T1 H1 g1 w1 a1 hn hg1 hx1
      refine ih (js ++ rest) (listed.setIfInBounds i true) (by simp at hL ⊢; omega) ?_ T1 H1 g1 w1 a1 hg1 hn (fun T' H' g' w' a' hk hg' hx' => hr T' H' g' w' a' hk hg' (hx1.trans hx'))
      have hge : ∀ k, (listed.setIfInBounds i true).getD k false = if k = i then true else listed.getD k false := by
        intro k
        by_cases hki : k = i
        · subst hki
          rw [if_pos rfl, Array.getD_eq_getD_getElem?, Array.getElem?_setIfInBounds]
          simp [hleft.size, hlt]
        · rw [if_neg hki]; exact getD_set_ne false (Ne.symm hki)
      refine ⟨by simp [hleft.size], fun k => ?_, ?_, fun k o ho hk e he hb => ?_⟩
      · rw [hge]
        have hm := hleft.mem k
        have hni : i ∉ js := fun hc => by have := hs3 i hc i (List.mem_cons_self ..); omega
        have hni' : i ∉ rest := fun hc => by have := (List.pairwise_cons.1 hs2).1 i hc; omega
        simp only [List.mem_append, List.mem_cons] at hm ⊢
        by_cases hki : k = i
        · subst hki
          simp [hni, hni']
        · rw [if_neg hki]
          rw [← hm]
          simp [hki]
      · rw [List.pairwise_append]
        exact ⟨hs1, (List.pairwise_cons.1 hs2).2, fun x hx y hy => hs3 x hx y (List.mem_cons_of_mem _ hy)⟩
      · rw [hge] at hk ⊢
        split
        · rfl
        · split at hk
          · rename_i hne hki
            subst hki
            rw [hoi] at ho; cases ho
            exact hall e he hb
          · exact hleft.closed k o ho hk e he hb

theorem KB (n i : Nat) : (Array.replicate n false).getD i false = false := by
  rw [Array.getD_eq_getD_getElem?]
  by_cases h : i < n
  · rw [Array.getElem?_eq_getElem (by simpa using h)]; simp
  · rw [Array.getElem?_eq_none (by simpa using h)]; rfl

def jW (l : List Nat) (o : Oper) : Bool := match o.dst with
  | some d => l.any (Nat.beq d)
  | none => false

theorem aAg (htt : eE P tt) (hm : P.follows .mixedOrders = true) {c : Code} {n : Nat} {l : List (Nat × V)} {Q : Exit → Env → aR → List Nat → Prop} (hk : c.kind = 8) (hn : c.ops.size = n) (hok : NX pl c.ops = true)
    (h : RD P tt N pl c.ops (aJ 0 n) (PE.ofL l) H (fun T' H' => Q .normal (lift T') H' ds)) : AWP P ro N c (Env.ofL l) H ds Q := by
  cases c with
  | region id ops draw =>
    cases draw with
    | true =>
      intro g w a R hg hr
      simp only [Code.ops] at hn h hok
      refine wpIn_region_any hm ?_
      have hg0 : Good N g w (lift (PE.ofL l)) H ds a := by rw [XF]; exact hg
      obtain ⟨d1, d2⟩ := hg0.sr.drew
      refine TN (ro := ro) htt hok ops.size (aJ 0 n) (Array.replicate ops.size false) (by simp [aJ, hn]) ?_ (PE.ofL l) H g _ a (hg0.step d2 d1 (hg0.tr.ext d2) rfl rfl) h
        (fun T' H' g' w' a' hk hg' hx => hr _ _ _ _ _ _ _ hk hg' (d2.trans hx))
      refine ⟨by simp, fun i => ?_, by simpa [aJ] using List.pairwise_lt_range' .., fun k o ho hk => ?_⟩
      · simp only [aJ, List.mem_range', hn]
        constructor
        · rintro ⟨j, hj, rfl⟩
          exact ⟨by omega, KB _ _⟩
        · rintro ⟨h1, _⟩
          exact ⟨i, by omega, by omega⟩
      · rw [KB] at hk; cases hk
    | false => simp [Code.kind] at hk
  | _ => simp [Code.kind] at hk

end Go.Abs
namespace Go.Abs
open Go Go.RowKit
variable {P : Program} {tt : TT} {ro : Option Nat} {N : Nat} {T : Env} {H : aR} {ds : List Nat} {Q : Exit → Env → aR → List Nat → Prop}
def aS (x x' : V) : Prop := ∀ g w v, Rep g w x v → Rep g w x' v

theorem aS.refl (x : V) : aS x x := fun _ _ _ h => h

theorem UU {z : Bool} {el el' : Nat → V} : aS (.sl z 0 el) (.sl false 0 el') := fun _ _ _ h => by
  obtain ⟨a, cap, rfl, _, _⟩ := h.slE
  exact .sl0 _ _ _ _ (by simp)

def oH : List V → List V → Prop
  | [], [] => True
  | x :: r, y :: s => aS x y ∧ oH r s
  | _, _ => False

theorem oH.refl : ∀ l : List V, oH l l
  | [] => trivial
  | x :: r => ⟨aS.refl x, oH.refl r⟩

theorem oH.len : ∀ {l m : List V}, oH l m → l.length = m.length
  | [], [], _ => rfl
  | _ :: r, _ :: s, h => by simp [oH.len h.2]
  | [], _ :: _, h => h.elim
  | _ :: _, [], h => h.elim

theorem oH.get : ∀ {l m : List V}, oH l m → ∀ (i : Nat) x y, l[i]? = some x → m[i]? = some y → aS x y
  | [], [], _, i, x, y, hx, _ => by simp at hx
  | a :: r, b :: s, h, i, x, y, hx, hy => by
    cases i with
    | zero => simp at hx hy; subst hx; subst hy; exact h.1
    | succ i => simp at hx hy; exact oH.get h.2 i x y hx hy
  | [], _ :: _, h, _, _, _, _, _ => h.elim
  | _ :: _, [], h, _, _, _, _, _ => h.elim

theorem LW {xs ys : List V} (h : oH xs ys) : aS (.agg xs) (.agg ys) := fun g w v hr => by
  obtain ⟨vs, rfl, h1, h2, h3⟩ := hr.AN
  refine uB.rep ⟨by rw [← h.len]; exact h1, fun i x y hx hy => ?_, h3⟩
  have hlt : i < xs.length := by rw [h.len]; exact (List.getElem?_eq_some_iff.1 hx).1
  exact h.get i _ _ (List.getElem?_eq_getElem hlt) hx g w y (h2 i _ y (List.getElem?_eq_getElem hlt) hy)

theorem aS.eq {x y : V} (h : x = y) : aS x y := by subst h; exact aS.refl x

theorem GG {t : Nat} {c : Ctx} {x : V} : ∀ {l l' : List (Nat × V)}, l.map (·.1) = l'.map (·.1) → oH (l.map (·.2)) (l'.map (·.2)) → Env.ofL l' t = some (c, x) → c = [] ∧ ∃ x0, Env.ofL l t = some ([], x0) ∧ aS x0 x
  | [], [], _, _, h => by simp [Env.ofL] at h
  | [], _ :: _, hk, _, _ => by simp at hk
  | _ :: _, [], hk, _, _ => by simp at hk
  | p :: r, q :: s, hk, hs, h => by
    simp only [List.map_cons, List.cons.injEq] at hk hs
    simp only [Env.ofL] at h ⊢
    rw [hk.1]
    cases hb : Nat.beq t q.1 with
    | true =>
      rw [hb] at h
      simp at h; obtain ⟨rfl, rfl⟩ := h
      exact ⟨rfl, p.2, rfl, hs.1⟩
    | false =>
      rw [hb] at h
      exact GG hk.2 hs.2 h

theorem ZX {c : Code} (l l' : List (Nat × V)) (hk : l.map (·.1) = l'.map (·.1)) (hs : oH (l.map (·.2)) (l'.map (·.2))) (next : AWP P ro N c (Env.ofL l') H ds Q) : AWP P ro N c (Env.ofL l) H ds Q := by
  intro g w a R hg hr
  refine next g w a R ⟨hg.sr, ?_, hg.df, hg.dl, hg.sz⟩ hr
  intro t c' x ht
  obtain ⟨rfl, x0, h0, hsub⟩ := GG hk hs ht
  obtain ⟨v, hv, hrep⟩ := (hg.tr t [] x0 h0).1 (by simp [cC])
  exact ⟨fun _ => ⟨v, hv, hsub g w v hrep⟩, fun h => absurd (by simp [cC]) h⟩

def eL {α : Type} [Inhabited α] (e : α → V) (l : List α) : V := .sl false l.length (fun i => e (l.getD i default))

def pH (k : IntKind) (n : Int) : V := .lit (.int k n)

def aK (b : Bool) : V := .lit (.bool b)

def wJ (s : ByteArray) : V := .lit (.string s)

theorem pE {α : Type} [Inhabited α] {e : α → V} {z : Bool} {el : Nat → V} : aS (.sl z 0 el) (eL e []) := UU

theorem Rep.FC {g : Gh} {w : World} {z : Bool} {n : Nat} {el el' : Nat → V} {v : Value} (h : Rep g w (.sl z n el) v) (he : ∀ i, i < n → el i = el' i) : Rep g w (.sl z n el') v := by
  cases h with
  | sl0 z el a cap hz => exact .sl0 z el' a cap hz
  | sl n el b o k cap c h1 h2 h3 h4 h5 h6 => exact .sl n el' b o k cap c (fun i hi => he i hi ▸ h1 i hi) h2 h3 h4 h5 (fun i hi => he i hi ▸ h6 i hi)

theorem XX {n n' : Nat} {el el' : Nat → V} (hn : n = n') (he : ∀ i, i < n → el i = el' i) : aS (.sl false n el) (.sl false n' el') := by
  subst hn
  exact fun g w v h => h.FC he

theorem YV {α : Type} [Inhabited α] {e : α → V} {l : List α} {b : Nat} (hb : b ≤ l.length) : aS (.sl false b (fun i => e (l.getD i default))) (eL e (l.take b)) :=
  XX (by simp; omega) (fun i hi => by simp [List.getD_eq_getElem?_getD, List.getElem?_take, hi])

theorem TS (H : aR) (o : cQ) : (H ++ [o])[H.length]? = some o := by simp

theorem pW {H : aR} {l : Nat} {o o' : cQ} (h : H[l]? = some o) : (H ++ [o'])[l]? = some o := by
  rw [List.getElem?_append_left (List.getElem?_eq_some_iff.1 h).1]; exact h

theorem AV {t : Nat} {x : V} : ∀ {l : List (Nat × V)} {i : Nat} {old : V} {u : Nat} {c : Ctx} {y : V}, l[i]? = some (t, old) → Env.ofL (l.set i (t, x)) u = some (c, y) →
    Env.ofL l u = some (c, y) ∨ (c = [] ∧ y = x ∧ Env.ofL l u = some ([], old))
  | [], i, old, u, c, y, h, _ => by simp at h
  | p :: r, 0, old, u, c, y, h, hu => by
    simp at h; subst h
    simp only [List.set_cons_zero, Env.ofL] at hu ⊢
    cases hb : Nat.beq u t with
    | true => rw [hb] at hu; simp at hu; exact .inr ⟨hu.1, hu.2.symm, rfl⟩
    | false => rw [hb] at hu; exact .inl hu
  | p :: r, i + 1, old, u, c, y, h, hu => by
    simp only [List.set_cons_succ, Env.ofL] at hu ⊢
    cases hb : Nat.beq u p.1 with
    | true => rw [hb] at hu; exact .inl hu
    | false => rw [hb] at hu; exact AV (by simpa using h) hu

theorem aAK {c : Code} {l : List (Nat × V)} (i : Nat) {t k : Nat} {el : Nat → V} (hi : l[i]? = some (t, .sl true 0 el)) (next : AWP P ro N c (Env.ofL (l.set i (t, .msl k H.length 0 0))) (H ++ [.vec k []]) ds Q) :
    AWP P ro N c (Env.ofL l) H ds Q := by
  intro g w a R hg hr
  have hm := hg.sr.more (b := w.heap.size) (o := 0) (k := k) (cap := 0) (xs := []) (by simp) (by simp) (fun _ => undef) (by simp) (by simp) (fun _ _ _ _ _ _ _ hj => by simp at hj)
  have hx : Ext g w (g.more w.heap.size 0 k 0) w := (Ext.refl g w).more (.inl (Nat.le_refl _))
  refine next _ w a R (hg.step hx hm ?_ rfl rfl) (fun e T' H' ds' g' w' a' q hg' hx' => hr e T' H' ds' g' w' a' q hg' (hx.trans hx'))
  have htr := hg.tr.ext hx
  intro u c' x hu
  rcases AV hi hu with h | ⟨rfl, rfl, h⟩
  · exact htr u c' x h
  · obtain ⟨v, hv, hrep⟩ := (hg.tr u [] _ h).1 (by simp [cC])
    obtain ⟨a0, cap, rfl, hn, hz⟩ := hrep.slE
    have hc0 := hz rfl
    subst hc0
    refine ⟨fun _ => ⟨_, hv, ?_⟩, fun hnc => absurd (by simp [cC]) hnc⟩
    have := Rep.msl0 (g := g.more w.heap.size 0 k 0) (w := w) g.n 0 a0 (Nat.lt_succ_self _) (by simp [Gh.more, cU])
    rw [hg.sr.len]
    simpa [Gh.more, cU] using this

theorem lM.sub {f : FuncId} {as0 as0' : List V} {H : aR} {Q : V → aR → Prop} (h : lM P f as0' H Q) (hs : oH as0 as0') : lM P f as0 H Q :=
  ⟨h.1, fun g w vs h1 h2 h3 => h.2 g w vs h1 (by rw [← hs.len]; exact h2) (fun i x y hx hy => by
    have hlt : i < as0.length := by rw [hs.len]; exact (List.getElem?_eq_some_iff.1 hx).1
    exact hs.get i _ _ (List.getElem?_eq_getElem hlt) hx g w y (h3 i _ y (List.getElem?_eq_getElem hlt) hy))⟩

theorem lM.post {f : FuncId} {as0 : List V} {H : aR} {Q Q' : V → aR → Prop} (h : lM P f as0 H Q) (hq : ∀ r H', Q r H' → ∃ r', aS r r' ∧ Q' r' H') : lM P f as0 H Q' :=
  ⟨h.1, fun g w vs h1 h2 h3 => (h.2 g w vs h1 h2 h3).mono fun _ _ ⟨v, r, g', H', a, b, c, d, e⟩ => let ⟨r', hs, hq'⟩ := hq r H' e; ⟨v, r', g', H', a, hs _ _ _ b, c, d, hq'⟩⟩

def iter {S R : Type} (body : S → Option (S ⊕ R)) : Nat → S → Option R
  | 0, _ => none
  | k + 1, s => match body s with
    | some (.inl s') => iter body k s'
    | some (.inr r) => some r
    | none => none

open Classical in
noncomputable def lp {S R : Type} (body : S → Option (S ⊕ R)) (s : S) : Option R :=
  if h : ∃ k r, iter body k s = some r then iter body (Classical.choose h) s else none

theorem ER {S R : Type} {body : S → Option (S ⊕ R)} : ∀ {k : Nat} {s : S} {r : R}, iter body k s = some r → ∀ m, iter body (k + m) s = some r
  | 0, s, r, h, _ => by simp [iter] at h
  | k + 1, s, r, h, m => by
    rw [show k + 1 + m = (k + m) + 1 by omega]
    simp only [iter] at h ⊢
    split at h
    · exact ER h m
    · exact h
    · exact h

theorem OU {S R : Type} {body : S → Option (S ⊕ R)} {k k' : Nat} {s : S} {r r' : R} (h : iter body k s = some r) (h' : iter body k' s = some r') : r = r' := by
  have h1 := ER h k'
  have h2 := ER h' k
  rw [Nat.add_comm] at h2
  rw [h1] at h2
  exact Option.some.inj h2

theorem JE {S R : Type} {body : S → Option (S ⊕ R)} {s : S} {r : R} : lp body s = some r ↔ ∃ k, iter body k s = some r := by
  unfold lp
  constructor
  · intro h
    split at h
    · exact ⟨_, h⟩
    · cases h
  · rintro ⟨k, hk⟩
    have hex : ∃ k r, iter body k s = some r := ⟨k, r, hk⟩
    rw [dif_pos hex]
    obtain ⟨r', hr'⟩ := Classical.choose_spec hex
    rw [hr', OU hk hr']

theorem eP {S R : Type} {body : S → Option (S ⊕ R)} {s s' : S} (h : body s = some (.inl s')) : lp body s = lp body s' := by
  apply Option.ext
  intro r
  simp only [JE]
  constructor
  · rintro ⟨k, hk⟩
    cases k with
    | zero => simp [iter] at hk
    | succ k => exact ⟨k, by simpa [iter, h] using hk⟩
  · rintro ⟨k, hk⟩
    exact ⟨k + 1, by simpa [iter, h] using hk⟩

theorem cK {S R : Type} {body : S → Option (S ⊕ R)} {s : S} {r : R} (h : body s = some (.inr r)) : lp body s = some r :=
  JE.2 ⟨1, by simp [iter, h]⟩

theorem UT {S R : Type} {body : S → Option (S ⊕ R)} {k : Nat} {s : S} {r : R} (h : iter body k s = some r) :
    ∃ k', k = k' + 1 ∧ ((∃ s', body s = some (.inl s') ∧ iter body k' s' = some r) ∨ body s = some (.inr r)) := by
  cases k with
  | zero => simp [iter] at h
  | succ k =>
    refine ⟨k, rfl, ?_⟩
    simp only [iter] at h
    split at h
    · rename_i s' hs; exact .inl ⟨s', hs, h⟩
    · rename_i r' hr; simp at h; subst h; exact .inr hr
    · cases h

def RX {S R : Type} (body : S → Option (S ⊕ R)) (k : Nat) (r : R) : S ⊕ R → Prop
  | .inl s => iter body k s = some r
  | .inr r' => r' = r

theorem TG {S R : Type} {body : S → Option (S ⊕ R)} {k : Nat} {s : S} {r : R} (h : iter body k s = some r) : ∃ k' out, k = k' + 1 ∧ body s = some out ∧ RX body k' r out := by
  obtain ⟨k', rfl, ⟨s', h1, h2⟩ | h1⟩ := UT h
  · exact ⟨k', _, rfl, h1, h2⟩
  · exact ⟨k', _, rfl, h1, rfl⟩

theorem aAl {c : Code} (hk : c.kind = 1) (J : Env → aR → Prop) (hJ : ∀ T H, J T H → AWP P ro N c.r T H ds Q) (h : AWP P ro N c.l T H ds (sN (fun T H ds' => ds' = ds ∧ J T H) Q)) : AWP P ro N c T H ds Q := by
  refine LS hk (h.mono ?_)
  intro e T H ds' hq
  cases e with
  | normal => obtain ⟨rfl, hq⟩ := hq; exact hJ T H hq
  | _ => exact hq

theorem ZN {c : Code} {S R : Type} {body : S → Option (S ⊕ R)} {s : S} {r : R} (hk : c.kind = 4) (I : S → Env → aR → Prop) (hl : lp body s = some r) (h0 : I s T H)
    (round : ∀ k s out T H, I s T H → body s = some out → RX body k r out → AWP P ro N c.b T H ds (sN (fun T' H' ds' => ds' = ds ∧ ∃ s', out = .inl s' ∧ I s' T' H') Q)) : AWP P ro N c T H ds Q := by
  obtain ⟨k, hk0⟩ := JE.1 hl
  refine aAD hk (fun k T H ds' => ds' = ds ∧ ∃ s, I s T H ∧ iter body k s = some r) (k := k) ⟨rfl, s, h0, hk0⟩ ?_
  rintro k T H _ ⟨rfl, s, hI, hit⟩
  obtain ⟨k', out, rfl, hb, ho⟩ := TG hit
  refine (round k' s out T H hI hb ho).mono ?_
  intro e T' H' ds' hq
  cases e with
  | normal =>
    obtain ⟨rfl, s', rfl, hI'⟩ := hq
    exact ⟨k', Nat.lt_succ_self _, rfl, s', hI', ho⟩
  | _ => exact hq

theorem nB {fn : Func} {Q : V → aR → Prop} {x x' : V} (hx : AP fn T = some x) (hs : aS x x') (hq : Q x' H) : EU fn (fun r H => ∃ r', aS r r' ∧ Q r' H) .ret T H [] :=
  ⟨rfl, x, hx, x', hs, hq⟩

theorem qK {fn : Func} {Q : V → aR → Prop} {x x' : V} (hx : AP fn T = some x) (hs : aS x x') (hq : Q x' H) : EU fn (fun r H => ∃ r', aS r r' ∧ Q r' H) .normal T H [] :=
  ⟨rfl, x, hx, x', hs, hq⟩

theorem aAp {f : Nat} {fn : Func} {args : List V} {Q : V → aR → Prop} (hf : P.funcs[f]? = some fn) (hb : fn.body.isSome = true) (hname : (fn.name == "runtime.NumGoroutine") = false) (hN0 : Nat.ble args.length fn.ntmps = true)
    (h : AWP P none fn.ntmps (B fn) (Env.ofL (params 0 args)) H [] (EU fn (fun r H => ∃ r', aS r r' ∧ Q r' H))) : lM P f args H Q :=
  (YG hf hb hname hN0 h).post fun _ _ h => h

def cF (P : Program) (f : FuncId) (args : List V) (r : V) : Prop := ∀ H, lM P f args H fun x H' => x = r ∧ cY H H'

def xY (tt : TT) (N : Nat) (ops : Array Oper) : List Nat → PE → Option (List Prop)
  | [], _ => some []
  | i :: is, T => match ops[i]? with
    | none => none
    | some o => match dOk N o, oL ops T o with
      | true, some true => match qB tt T o.op with
        | some (Cs, x) => match xY tt N ops is (T.bO o.dst x) with
          | some Ds => some (Cs ++ Ds)
          | none => none
        | none => none
      | true, some false => xY tt N ops is (T.bO o.dst .bad)
      | _, _ => none

def yG (tt : TT) (ops : Array Oper) : List Nat → PE → PE
  | [], T => T
  | i :: is, T => match ops[i]? with
    | none => T
    | some o => match oL ops T o with
      | some true => match qB tt T o.op with
        | some (_, x) => yG tt ops is (T.bO o.dst x)
        | none => T
      | some false => yG tt ops is (T.bO o.dst .bad)
      | none => T

theorem ID {pl : Oper → Bool} {ops : Array Oper} {K : PE → aR → Prop} : ∀ {is js : List Nat} {T : PE} {Ds : List Prop}, xY tt N ops is T = some Ds → qF Ds → RD P tt N pl ops js (yG tt ops is T) H K → RD P tt N pl ops (is ++ js) T H K
  | [], js, T, Ds, _, _, h => h
  | i :: is, js, T, Ds, hc, hD, h => by
    simp only [xY] at hc
    simp only [yG] at h
    split at hc
    · simp at hc
    · rename_i o ho
      simp only [ho] at h
      split at hc
      · rename_i hd hg
        simp only [hg] at h
        split at hc
        · rename_i Cs x hp
          simp only [hp] at h
          split at hc
          · rename_i Ds' hDs
            simp at hc; subst hc
            obtain ⟨d1, d2⟩ := AO.1 hD
            exact ⟨o, ho, hd, true, hg, ⟨fun _ => .inl ⟨Cs, x, hp, d1, ID hDs d2 h⟩, fun h => by simp at h⟩⟩
          · simp at hc
        · simp at hc
      · rename_i hd hg
        simp only [hg] at h
        exact ⟨o, ho, hd, false, hg, ⟨fun h => by simp at h, fun _ => ID hc hD h⟩⟩
      · simp at hc

section drawn
variable {ops : Array Oper} {K : PE → aR → Prop} {i n : Nat} {T : PE} {pl : Oper → Bool}
theorem TQ (j : Nat) (hs : aJ i n = aJ i j ++ aJ j n) {Ds : List Prop} (hc : xY tt N ops (aJ i j) T = some Ds) (hD : qF Ds)
    (h : RD P tt N pl ops (aJ j n) (yG tt ops (aJ i j) T) H K) : RD P tt N pl ops (aJ i n) T H K := by
  rw [hs]; exact ID hc hD h

theorem LL {Ds : List Prop} (hc : xY tt N ops (aJ i n) T = some Ds) (hD : qF Ds) (h : K (yG tt ops (aJ i n) T) H) : RD P tt N pl ops (aJ i n) T H K := by
  have := ID (pl := pl) (P := P) (js := []) (H := H) (K := K) hc hD h
  rwa [List.append_nil] at this

theorem xA (hs : aJ i n = []) (h : K T H) : RD P tt N pl ops (aJ i n) T H K := by rw [hs]; exact h

theorem BI {K' : PE → aR → Prop} : ∀ {is : List Nat} {T : PE} {H : aR}, RD P tt N pl ops is T H K → (∀ T H, K T H → K' T H) → RD P tt N pl ops is T H K'
  | [], _, _, h, hk => hk _ _ h
  | _ :: _, _, _, ⟨o, ho, h⟩, hk => ⟨o, ho, zA (fun _ _ hr => BI hr hk) h⟩

theorem QV {is : List Nat} {t : Nat} {e b : Bool} (ht : T t = some (.lit (.bool e))) (he : e = b) (h : RD P tt N pl ops is (T.set t (.lit (.bool b))) H K) : RD P tt N pl ops is T H K := by
  subst he
  have : T.set t (.lit (.bool e)) = T := by
    funext u
    simp only [PE.set]
    cases hb : Nat.beq u t with
    | false => rfl
    | true => rw [Nat.eq_of_beq_eq_true hb, ht]
  rwa [this] at h

def qH (pl : Oper → Bool) (ops : Array Oper) (i : Nat) : Bool := match ops[i]? with
  | some o => !pl o
  | none => true

theorem XM {o : Oper} {T : PE} {ctx : Ctx} {K : V → aR → Prop} (hq : jK o.op = 1 → pl o = false) (he : lH P tt (lift T) ctx o.op H K) : ek pl o ≠ 0 := by
  intro hk
  unfold ek at hk
  split at hk
  · rename_i hb
    simp only [Bool.and_eq_true] at hb
    have := hq (Nat.eq_of_beq_eq_true hb.2)
    rw [hb.1] at this
    cases this
  · exact VG hk he

def sU (pl : Oper → Bool) (ops : Array Oper) (i : Nat) : Bool := qH pl ops i || !TY pl ops

theorem QX {o : Oper} (ho : ops[i]? = some o) (h : sU pl ops i = true) : clo pl ops o = false := by
  unfold sU qH at h
  simp only [ho, Bool.or_eq_true, Bool.not_eq_true'] at h
  unfold clo
  rcases h with h | h <;> simp [h]

theorem KH {o : Oper} (h1 : nF o.op = false) (h2 : kB o.op = false) : clo pl ops o = false := by
  unfold clo; simp [h1, h2]

theorem WX {op : Op} (h : xM op = false) : kB op = false := by
  unfold kB
  split
  · simp [xM] at h
  · rfl

theorem MY {op : Op} (hs : aJ i n = i :: aJ (i + 1) n) (hp : fY N ops i = some op) (hq : jK op = 1 → qH pl ops i = true) (hz : (nF op = false ∧ kB op = false) ∨ sU pl ops i = true) (h : lH P tt (lift T) [] op H (fun x H' => (xM op = true → qH pl ops i = false → cY H H') ∧ RD P tt N pl ops (aJ (i + 1) n) (T.bO (cB ops i) x) H' K)) :
    RD P tt N pl ops (aJ i n) T H K := by
  rw [hs]
  obtain ⟨o, ho, rfl, hctx, hd, hdst⟩ := tM (T := fun _ => none) hp
  rw [hdst] at h
  have hg : oL ops T o = some true := by
    unfold fY at hp
    rw [ho] at hp
    simp only at hp
    split at hp
    · rename_i hgd _; unfold oL; rw [hgd]
    · simp at hp
  have hdk : dOk N o = true := by
    unfold tV at hd; unfold dOk
    split <;> simp_all
  have hz' : clo pl ops o = false := by
    rcases hz with hz | hz
    · exact KH hz.1 hz.2
    · exact QX ho hz
  exact ⟨o, ho, hdk, true, hg, ⟨fun _ => .inr ⟨XM (fun h1 => by have := hq h1; simpa [qH, ho] using this) h, .inl ⟨hz', jR (fun x H' hx => ⟨fun hqu => by
    unfold quiet at hqu
    rw [Bool.and_eq_true] at hqu
    exact hx.1 hqu.1 (by simp [qH, ho, hqu.2]), hx.2⟩) h⟩⟩, fun h => by simp at h⟩⟩

theorem SI {op : Op} (hs : aJ i n = i :: aJ (i + 1) n) (hp : fY N ops i = some op) (hq : jK op = 1 → qH pl ops i = true) (hc : xM op = false) (hz : nF op = false) (h : lH P tt (lift T) [] op H (fun x H' => RD P tt N pl ops (aJ (i + 1) n) (T.bO (cB ops i) x) H' K)) :
    RD P tt N pl ops (aJ i n) T H K := MY hs hp hq (.inl ⟨hz, WX hc⟩) (jR (fun x H' hx => ⟨fun h => absurd h (by simp [hc]), hx⟩) h)

theorem MI {fid : Nat} {as0 : List V} (hs : aJ i n = i :: aJ (i + 1) n) (hd : mU N ops (lift T) i = some (fid, as0)) {Q : V → aR → Prop} (hc : lM P fid as0 H Q) (hx : qH pl ops i = false → ∀ r H', Q r H' → cY H H')
    (h : ∀ r H', Q r H' → RD P tt N pl ops (aJ (i + 1) n) (T.bO (cB ops i) r) H' K) (hz : sU pl ops i = true := by kernel_rfl) : RD P tt N pl ops (aJ i n) T H K := by
  unfold mU at hd
  split at hd
  · rename_i f args tys hp
    split at hd
    · rename_i ys cs xs hf hxs
      simp at hd; obtain ⟨rfl, rfl⟩ := hd
      refine MY hs hp (fun h => by cases h) (.inr hz) ?_
      refine ⟨_, xs, hf, hxs, ?_⟩
      refine Or.inl ?_
      simpa using hc.mono fun r H' q => ⟨fun _ hp' => hx hp' r H' q, h r H' q⟩
    · simp at hd
  · simp at hd

theorem XE {s x : V} {te : TyE} {es ys : List V} (hs : aJ i n = i :: aJ (i + 1) n) (hd : xO tt N ops (lift T) i = some (s, x, te)) (he : yR te.size H s = some es) (hy : sZ te.size H x = some ys)
    (hb : (es.length + ys.length) * te.bytes ≤ 140737488355328) (h63 : es.length + ys.length ≤ 9223372036854775807)
    (h : RD P tt N pl ops (aJ (i + 1) n) (T.bO (cB ops i) (.msl te.size H.length 0 (es.length + ys.length))) (vR te.size H s (es ++ ys)) K) : RD P tt N pl ops (aJ i n) T H K := by
  unfold xO at hd
  split at hd
  · rename_i args tys hp
    split at hd
    · rename_i s' x' t t' hev h0 h1 h2
      split at hd
      · rename_i e _ _ _ e' _ _ _ ht ht'
        split at hd
        · rename_i te' hte
          split at hd
          · rename_i hz
            simp at hd; obtain ⟨rfl, rfl, rfl⟩ := hd
            refine SI hs hp (fun h => by cases h) rfl rfl ?_
            exact .inr (.inr ⟨_, _, t, t', e, e', _, es, ys, hev, MQ h0 h1 h2, ⟨_, _, _, ht⟩, ⟨_, _, _, ht'⟩, hte, hz, he, hy, hb, h63, h⟩)
          · simp at hd
        · simp at hd
      · simp at hd
    · simp at hd
  · simp at hd

theorem SD {xs : List V} {k : Nat} (hs : aJ i n = i :: aJ (i + 1) n) (hd : DP tt N ops (lift T) i = some (xs, k))
    (h : RD P tt N pl ops (aJ (i + 1) n) (T.bO (cB ops i) (lI xs)) H K) : RD P tt N pl ops (aJ i n) T H K := by
  unfold DP at hd
  split at hd
  · rename_i t k' parts hp
    split at hd
    · rename_i ys e _ _ _ hb ht
      split at hd
      · rename_i te hte
        simp at hd; obtain ⟨rfl, rfl⟩ := hd
        refine MY hs hp (fun h => by cases h) (.inl ⟨rfl, rfl⟩) ?_
        exact ⟨_, hb, .inl ⟨fun _ _ => cY.refl H, h⟩⟩
      · simp at hd
    · simp at hd
  · simp at hd

theorem YE {fid : Nat} {as0 : List V} {x : V} (hs : aJ i n = i :: aJ (i + 1) n) (hd : mU N ops (lift T) i = some (fid, as0)) (hc : ∀ H1, lM P fid as0 H1 (fun r H' => r = x ∧ cY H1 H'))
    (h : ∀ H', cY H H' → RD P tt N pl ops (aJ (i + 1) n) (T.bO (cB ops i) x) H' K) : RD P tt N pl ops (aJ i n) T H K := by
  cases hz : sU pl ops i with
  | true => exact MI hs hd (hc H) (fun _ _ _ q => q.2) (fun r H' q => q.1 ▸ h H' q.2) hz
  | false =>
    unfold mU at hd
    split at hd
    · rename_i f args tys hp
      split at hd
      · rename_i ys cs xs hf hxs
        simp at hd; obtain ⟨rfl, rfl⟩ := hd
        rw [hs]
        obtain ⟨o, ho, hop, hctx, hdo, hdst⟩ := tM (T := fun _ => none) hp
        rw [hdst] at h
        have hg : oL ops T o = some true := by
          unfold fY at hp
          rw [ho] at hp
          simp only at hp
          split at hp
          · rename_i hgd _; unfold oL; rw [hgd]
          · simp at hp
        have hdk : dOk N o = true := by
          unfold tV at hdo; unfold dOk
          split <;> simp_all
        have hcv : kB o.op = true := by rw [hop]; rfl
        have hk : ek pl o ≠ 0 := by unfold ek; rw [hop]; simp [jK]
        have hcl : clo pl ops o = true := by
          unfold sU qH at hz
          simp only [ho, Bool.or_eq_false_iff, Bool.not_eq_false'] at hz
          unfold clo; simp [hz.1, hz.2, hcv]
        refine ⟨o, ho, hdk, true, hg, ⟨fun _ => .inr ⟨hk, .inr ⟨hcl, .inr ⟨hcv, x, fun H1 _ => ?_, fun H' e => h H' e⟩⟩⟩, fun h => by simp at h⟩⟩
        rw [hop]
        refine ⟨_, xs, hf, hxs, ?_⟩
        refine Or.inl ?_
        simpa using hc H1
      · simp at hd
    · simp at hd

end drawn
end Go.Abs
namespace Go.Abs
open Go Go.RowKit
variable {P : Program} {tt : TT} {ro : Option Nat} {N : Nat} {T : Env} {H : aR} {ds : List Nat} {Q : Exit → Env → aR → List Nat → Prop}
structure Frame where
  h : aR
  e : List Nat
  g : List (Nat × cQ)

def pK (F : Frame) (H : aR) : Prop := F.h.length ≤ H.length ∧ ∀ l, l < F.h.length → l ∉ F.e → H[l]? = F.h[l]?

theorem pK.refl (H : aR) (e : List Nat) (g : List (Nat × cQ) := []) : pK ⟨H, e, g⟩ H := ⟨Nat.le_refl _, fun _ _ _ => rfl⟩

theorem pK.push {F : Frame} {H : aR} (h : pK F H) (o : cQ) : pK F (H ++ [o]) := ⟨by simp; have := h.1; omega, fun l hl he => by rw [List.getElem?_append_left (Nat.lt_of_lt_of_le hl h.1)]; exact h.2 l hl he⟩

theorem pK.set {F : Frame} {H : aR} (h : pK F H) {l : Nat} (hl : F.h.length ≤ l ∨ l ∈ F.e) (o : cQ) : pK F (H.set l o) := ⟨by simp; exact h.1, fun k hk he => by
  have hne : l ≠ k := by
    rintro rfl
    rcases hl with hl | hl
    · omega
    · exact he hl
  rw [List.getElem?_set_ne hne]; exact h.2 k hk he⟩

theorem pK.trans {F : Frame} {H H' : aR} (h : pK F H) (hx : cY H H') : pK F H' := ⟨Nat.le_trans h.1 hx.1, fun l hl he => (hx.2 l (Nat.lt_of_lt_of_le hl h.1)).trans (h.2 l hl he)⟩

theorem pK.UW {F : Frame} {H H' : aR} {lo : Nat} (h : pK F H) (hx : pK ⟨H, [lo], []⟩ H') (hl : F.h.length ≤ lo ∨ lo ∈ F.e) : pK F H' := ⟨Nat.le_trans h.1 hx.1, fun l hl' he => by
  have hne : l ≠ lo := by
    rintro rfl
    rcases hl with hl | hl
    · omega
    · exact he hl
  exact (hx.2 l (Nat.lt_of_lt_of_le hl' h.1) (by simpa using hne)).trans (h.2 l hl' he)⟩

structure aL (H0 : Frame) (H : aR) (L : List (Nat × Nat × List V)) : Prop where
  ext : pK H0 H
  ne : ∀ (i j : Nat) p q, L[i]? = some p → L[j]? = some q → i ≠ j → p.1 ≠ q.1
  mem : ∀ (i : Nat) lo k es, L[i]? = some (lo, k, es) → (H0.h.length ≤ lo ∨ lo ∈ H0.e) ∧ H[lo]? = some (.vec k es)
  gm : ∀ (i : Nat) p, H0.g[i]? = some p → (H0.h.length ≤ p.1 ∨ p.1 ∈ H0.e) ∧ H[p.1]? = some p.2
  gl : ∀ (i j : Nat) p q, H0.g[i]? = some p → L[j]? = some q → p.1 ≠ q.1
  gn : ∀ (i j : Nat) p q, H0.g[i]? = some p → H0.g[j]? = some q → i ≠ j → p.1 ≠ q.1

theorem aL.start (H : aR) : aL ⟨H, [], []⟩ H [] := ⟨pK.refl H _, by simp, by simp, by simp, by simp, by simp⟩

theorem aL.pI {H : aR} {lo k : Nat} {es : List V} (h : H[lo]? = some (.vec k es)) : aL ⟨H, [lo], []⟩ H [(lo, k, es)] := ⟨pK.refl H _, fun i j p q hi hj hne => by
  cases i with
  | zero => cases j with
    | zero => exact absurd rfl hne
    | succ j => simp at hj
  | succ i => simp at hi, fun i lo' k' es' hi => by
  cases i with
  | zero => simp at hi; obtain ⟨rfl, rfl, rfl⟩ := hi; exact ⟨.inr (by simp), h⟩
  | succ i => simp at hi, by simp, by simp, by simp⟩

theorem aL.out {H0 H : aR} {L : List (Nat × Nat × List V)} (h : aL ⟨H0, [], []⟩ H L) : cY H0 H := ⟨h.ext.1, fun l hl => h.ext.2 l hl (by simp)⟩

theorem aL.glt {H0 : Frame} {H : aR} {L : List (Nat × Nat × List V)} (h : aL H0 H L) {i : Nat} {p : Nat × cQ} (hi : H0.g[i]? = some p) : p.1 < H.length := (List.getElem?_eq_some_iff.1 (h.gm i p hi).2).1

theorem aL.lt {H0 : Frame} {H : aR} {L : List (Nat × Nat × List V)} (h : aL H0 H L) {i : Nat} {p : Nat × Nat × List V} (hi : L[i]? = some p) : p.1 < H.length := (List.getElem?_eq_some_iff.1 (h.mem i p.1 p.2.1 p.2.2 hi).2).1

theorem aL.at {H0 : Frame} {H : aR} {L : List (Nat × Nat × List V)} (h : aL H0 H L) (i : Nat) {lo k : Nat} {es : List V} (hi : L[i]? = some (lo, k, es)) : H[lo]? = some (.vec k es) := (h.mem i lo k es hi).2

theorem tG {α : Type} {L : List α} {x p : α} {i : Nat} (h : (L ++ [x])[i]? = some p) : (i < L.length ∧ L[i]? = some p) ∨ (i = L.length ∧ p = x) := by
  by_cases hlt : i < L.length
  · rw [List.getElem?_append_left hlt] at h; exact .inl ⟨hlt, h⟩
  · rw [List.getElem?_append_right (by omega)] at h
    cases hz : i - L.length with
    | zero => rw [hz] at h; simp at h; exact .inr ⟨by omega, h.symm⟩
    | succ n => rw [hz] at h; simp at h

theorem mT {α : Type} {L : List α} {x p : α} {q i : Nat} (h : (L.set q x)[i]? = some p) : (i ≠ q ∧ L[i]? = some p) ∨ (i = q ∧ p = x) := by
  rw [List.getElem?_set] at h
  by_cases hq : q = i
  · rw [if_pos hq] at h
    split at h
    · simp at h; exact .inr ⟨hq.symm, h.symm⟩
    · cases h
  · rw [if_neg hq] at h; exact .inl ⟨Ne.symm hq, h⟩

theorem aL.new {H0 : Frame} {H : aR} {L : List (Nat × Nat × List V)} (h : aL H0 H L) (k : Nat) (es : List V) : aL H0 (H ++ [.vec k es]) (L ++ [(H.length, k, es)]) where
  ext := h.ext.push _
  ne i j p q hi hj hij := by
    rcases tG hi with ⟨_, hi⟩ | ⟨rfl, rfl⟩ <;> rcases tG hj with ⟨_, hj⟩ | ⟨rfl, rfl⟩
    · exact h.ne i j p q hi hj hij
    · exact Nat.ne_of_lt (h.lt hi)
    · exact (Nat.ne_of_lt (h.lt hj)).symm
    · exact absurd rfl hij
  mem i lo k' es' hi := by
    rcases tG hi with ⟨_, hi⟩ | ⟨rfl, hp⟩
    · obtain ⟨h1, h2⟩ := h.mem i lo k' es' hi
      exact ⟨h1, pW h2⟩
    · cases hp; exact ⟨.inl h.ext.1, TS _ _⟩
  gm i p hi := let ⟨h1, h2⟩ := h.gm i p hi; ⟨h1, pW h2⟩
  gl i j p q hi hj := by
    rcases tG hj with ⟨_, hj⟩ | ⟨_, rfl⟩
    · exact h.gl i j p q hi hj
    · exact Nat.ne_of_lt (h.glt hi)
  gn := h.gn

theorem aL.put {H0 : Frame} {H : aR} {L : List (Nat × Nat × List V)} (h : aL H0 H L) (i : Nat) {lo k : Nat} {es : List V} (hi : L[i]? = some (lo, k, es)) (es' : List V) : aL H0 (H.set lo (.vec k es')) (L.set i (lo, k, es')) where
  ext := h.ext.set (h.mem i lo k es hi).1 _
  ne a b p q ha hb hab := by
    rcases mT ha with ⟨n1, a1⟩ | ⟨e1, e2⟩ <;> rcases mT hb with ⟨n2, b1⟩ | ⟨e3, e4⟩
    · exact h.ne a b p q a1 b1 hab
    · rw [e4]; exact h.ne a i p (lo, k, es) a1 hi n1
    · rw [e2]; exact h.ne i b (lo, k, es) q hi b1 (Ne.symm n2)
    · exact absurd (e1.trans e3.symm) hab
  mem j lo' k' e' hj := by
    rcases mT hj with ⟨n1, hj⟩ | ⟨rfl, hp⟩
    · obtain ⟨h1, h2⟩ := h.mem j lo' k' e' hj
      exact ⟨h1, by rw [List.getElem?_set_ne (h.ne _ _ _ _ hi hj (Ne.symm n1))]; exact h2⟩
    · cases hp
      exact ⟨(h.mem j _ _ _ hi).1, by rw [List.getElem?_set_self (h.lt hi)]⟩
  gm j p hj := let ⟨h1, h2⟩ := h.gm j p hj; ⟨h1, by rw [List.getElem?_set_ne (h.gl _ _ _ _ hj hi).symm]; exact h2⟩
  gl a b p q ha hb := by
    rcases mT hb with ⟨_, hb⟩ | ⟨_, rfl⟩
    · exact h.gl a b p q ha hb
    · exact h.gl a i p (lo, k, es) ha hi
  gn := h.gn

theorem aL.app {H0 : Frame} {H : aR} {L : List (Nat × Nat × List V)} (h : aL H0 H L) (i : Nat) {lo k n : Nat} {es : List V} (hi : L[i]? = some (lo, k, es)) (es' : List V) :
    aL H0 (vR k H (.msl k lo 0 n) es') (L.set i (H.length, k, es')) where
  ext := (h.ext.set (h.mem i lo k es hi).1 _).push _
  ne a b p q ha hb hab := by
    rcases mT ha with ⟨n1, a1⟩ | ⟨e1, e2⟩ <;> rcases mT hb with ⟨n2, b1⟩ | ⟨e3, e4⟩
    · exact h.ne a b p q a1 b1 hab
    · rw [e4]; exact Nat.ne_of_lt (h.lt a1)
    · rw [e2]; exact (Nat.ne_of_lt (h.lt b1)).symm
    · exact absurd (e1.trans e3.symm) hab
  mem j lo' k' e' hj := by
    unfold vR
    rcases mT hj with ⟨n1, hj⟩ | ⟨rfl, hp⟩
    · obtain ⟨h1, h2⟩ := h.mem j lo' k' e' hj
      exact ⟨h1, pW (by rw [List.getElem?_set_ne (h.ne _ _ _ _ hi hj (Ne.symm n1))]; exact h2)⟩
    · cases hp
      refine ⟨.inl h.ext.1, ?_⟩
      simp
  gm j p hj := let ⟨h1, h2⟩ := h.gm j p hj; ⟨h1, by unfold vR; exact pW (by rw [List.getElem?_set_ne (h.gl _ _ _ _ hj hi).symm]; exact h2)⟩
  gl a b p q ha hb := by
    rcases mT hb with ⟨_, hb⟩ | ⟨_, rfl⟩
    · exact h.gl a b p q ha hb
    · exact Nat.ne_of_lt (h.glt ha)
  gn := h.gn

theorem aL.call {H0 : Frame} {H H' : aR} {L : List (Nat × Nat × List V)} (h : aL H0 H L) (hx : cY H H') : aL H0 H' L :=
  ⟨h.ext.trans hx, h.ne, fun i lo k es hi => let ⟨a, b⟩ := h.mem i lo k es hi; ⟨a, hx.at b⟩, fun i p hi => let ⟨a, b⟩ := h.gm i p hi; ⟨a, hx.at b⟩, h.gl, h.gn⟩

theorem TO {l : List Nat} (h : l.Nodup) {i j : Nat} {x : Nat} (hi : l[i]? = some x) (hj : l[j]? = some x) : i = j := by
  obtain ⟨h1, h2⟩ := List.getElem?_eq_some_iff.1 hi
  obtain ⟨h3, h4⟩ := List.getElem?_eq_some_iff.1 hj
  exact (List.getElem_inj h).1 (h2.trans h4.symm)

theorem aL.aAS {H0 : Frame} {H H' : aR} {L : List (Nat × Nat × List V)} (h : aL H0 H L) (q : Nat) {lo k : Nat} {es es' : List V} (hq : L[q]? = some (lo, k, es)) (hx : pK ⟨H, [lo], []⟩ H') (hl : H'[lo]? = some (.vec k es')) : aL H0 H' (L.set q (lo, k, es')) where
  ext := h.ext.UW hx (h.mem q lo k es hq).1
  ne a b p q' ha hb hab := by
    rcases mT ha with ⟨n1, a1⟩ | ⟨e1, e2⟩ <;> rcases mT hb with ⟨n2, b1⟩ | ⟨e3, e4⟩
    · exact h.ne a b p q' a1 b1 hab
    · rw [e4]; exact h.ne a q p (lo, k, es) a1 hq n1
    · rw [e2]; exact h.ne q b (lo, k, es) q' hq b1 (Ne.symm n2)
    · exact absurd (e1.trans e3.symm) hab
  mem j lo' k' e' hj := by
    rcases mT hj with ⟨n1, hj⟩ | ⟨rfl, hp⟩
    · obtain ⟨h1, h2⟩ := h.mem j lo' k' e' hj
      refine ⟨h1, ?_⟩
      have hne := h.ne _ _ _ _ hq hj (Ne.symm n1)
      exact (hx.2 lo' (List.getElem?_eq_some_iff.1 h2).1 (by simpa using hne.symm)).trans h2
    · cases hp
      exact ⟨(h.mem j _ _ _ hq).1, hl⟩
  gm j p hj := by
    obtain ⟨h1, h2⟩ := h.gm j p hj
    exact ⟨h1, (hx.2 p.1 (List.getElem?_eq_some_iff.1 h2).1 (by simpa using h.gl _ _ _ _ hj hq)).trans h2⟩
  gl a b p q' ha hb := by
    rcases mT hb with ⟨_, hb⟩ | ⟨_, rfl⟩
    · exact h.gl a b p q' ha hb
    · exact h.gl a q p (lo, k, es) ha hq
  gn := h.gn

theorem aL.pick {H0 : Frame} {H : aR} {L L' : List (Nat × Nat × List V)} (h : aL H0 H L) (is : List Nat) (hd : is.Nodup) (hl : is.map (fun i => L[i]?) = L'.map some) : aL H0 H L' := by
  have hlen : is.length = L'.length := by simpa using congrArg List.length hl
  have key : ∀ (j : Nat) p, L'[j]? = some p → ∃ i, is[j]? = some i ∧ L[i]? = some p := by
    intro j p hj
    have hlt := (List.getElem?_eq_some_iff.1 hj).1
    have hlt' : j < is.length := by omega
    refine ⟨is[j], by simp, ?_⟩
    have := congrArg (fun l => l[j]?) hl
    simpa [hj, hlt'] using this
  refine ⟨h.ext, fun a b p q ha hb hab => ?_, fun i lo k es hi => ?_, h.gm, fun a b p q ha hb => let ⟨ib, _, b2⟩ := key b q hb; h.gl a ib p q ha b2, h.gn⟩
  · obtain ⟨ia, a1, a2⟩ := key a p ha
    obtain ⟨ib, b1, b2⟩ := key b q hb
    refine h.ne ia ib p q a2 b2 fun hc => hab ?_
    subst hc
    exact TO hd a1 b1
  · obtain ⟨j, _, h2⟩ := key i _ hi
    exact h.mem j lo k es h2

theorem aL.kill {H0 : Frame} {H : aR} {L L' : List (Nat × Nat × List V)} (h : aL H0 H L) (i : Nat) {lo k : Nat} {es : List V} (hi : L[i]? = some (lo, k, es)) (hl : L' = L.eraseIdx i) : aL H0 (H.set lo .dead) L' := by
  subst hl
  have key : ∀ (j : Nat) p, (L.eraseIdx i)[j]? = some p → ∃ j', j' ≠ i ∧ L[j']? = some p ∧ j' = if j < i then j else j + 1 := by
    intro j p hj
    rw [List.getElem?_eraseIdx] at hj
    by_cases hlt : j < i
    · rw [if_pos hlt] at hj; exact ⟨j, by omega, hj, by rw [if_pos hlt]⟩
    · rw [if_neg hlt] at hj; exact ⟨j + 1, by omega, hj, by rw [if_neg hlt]⟩
  refine ⟨h.ext.set (h.mem i lo k es hi).1 _, fun a b p q ha hb hab => ?_, fun j lo' k' e' hj => ?_, fun a p ha => let ⟨h1, h2⟩ := h.gm a p ha; ⟨h1, by rw [List.getElem?_set_ne (h.gl _ _ _ _ ha hi).symm]; exact h2⟩, fun a b p q ha hb => let ⟨b', _, b1, _⟩ := key b q hb; h.gl a b' p q ha b1, h.gn⟩
  · obtain ⟨a', _, a1, a2⟩ := key a p ha
    obtain ⟨b', _, b1, b2⟩ := key b q hb
    refine h.ne a' b' p q a1 b1 ?_
    subst a2; subst b2
    split <;> split <;> omega
  · obtain ⟨j', n1, j1, _⟩ := key j _ hj
    obtain ⟨h1, h2⟩ := h.mem j' lo' k' e' j1
    exact ⟨h1, by rw [List.getElem?_set_ne (h.ne _ _ _ _ hi j1 (Ne.symm n1))]; exact h2⟩

def AT (N : Nat) (ops : Array Oper) (T : Env) (i : Nat) : Option (Ctx × Op) := match ops[i]? with
  | some o => match xZ ops T o with
    | some ctx => match tV N o ctx with
      | true => some (ctx, o.op)
      | false => none
    | none => none
  | none => none

theorem AF {ops : Array Oper} {i : Nat} {ctx : Ctx} {op : Op} (h : AT N ops T i = some (ctx, op)) : ∃ o, ops[i]? = some o ∧ o.op = op ∧ xZ ops T o = some ctx ∧ tV N o ctx = true ∧ cB ops i = o.dst := by
  unfold AT at h
  split at h
  · rename_i o ho
    split at h
    · rename_i c hc
      split at h
      · rename_i hd
        simp at h; obtain ⟨rfl, rfl⟩ := h
        exact ⟨o, ho, rfl, hc, hd, by simp [cB, ho]⟩
      · simp at h
    · simp at h
  · simp at h

section rules
variable {ops : Array Oper} {K : Env → aR → Prop} {i n : Nat}
theorem UQ {ctx : Ctx} {op : Op} {y : V} (hs : aJ i n = i :: aJ (i + 1) n) (hp : AT N ops T i = some (ctx, op))
    (h : gB T ctx = true → lH P tt T ctx op H (fun x H' => RWs P tt N ops (aJ (i + 1) n) (T.bO (cB ops i) (ctx, x)) H' K))
    (h' : gB T ctx = false → RWs P tt N ops (aJ (i + 1) n) (T.bO (cB ops i) (ctx, y)) H K) : RWs P tt N ops (aJ i n) T H K := by
  rw [hs]
  obtain ⟨o, ho, rfl, hctx, hd, hdst⟩ := AF hp
  rw [hdst] at h h'
  exact ⟨T, H, gS.refl _ _ _, o, ctx, ho, hctx, hd, .inr ⟨fun hg => .inl (h hg), fun hb => ⟨y, h' hb⟩⟩⟩

def uZ (N : Nat) (ops : Array Oper) (T : Env) (i : Nat) : Option (Ctx × Nat × List V) := match AT N ops T i with
  | some (ctx, .call ⟨.value f, args, _⟩) => match bY T ctx f, gZ T ctx args.toList with
    | some (.fn (.func fid) ys cs), some xs => some (ctx, fid, ys ++ xs ++ cs)
    | _, _ => none
  | _ => none

theorem ZA (ctx : Ctx) (fid : Nat) (as0 : List V) (x : V) (b : Bool) (hs : aJ i n = i :: aJ (i + 1) n) (hd : uZ N ops T i = some (ctx, fid, as0)) (hb : gB T ctx = b) (hc : b = true → cF P fid as0 x)
    (h : ∀ H', cY H H' → RWs P tt N ops (aJ (i + 1) n) (T.bO (cB ops i) (ctx, x)) H' K) : RWs P tt N ops (aJ i n) T H K := by
  unfold uZ at hd
  split at hd
  · rename_i ctx' f args tys hp
    split at hd
    · rename_i ys cs xs hf hx
      simp at hd; obtain ⟨rfl, rfl, rfl⟩ := hd
      refine UQ (y := x) hs hp (fun hg => ?_) (fun _ => h H (cY.refl H))
      refine ⟨_, xs, hf, hx, ?_⟩
      refine Or.inl ?_
      have := hc (hb ▸ hg) H
      simp only [List.append_assoc] at this ⊢
      refine this.mono ?_
      rintro r H' ⟨rfl, hx⟩
      exact h H' hx
    · simp at hd
  · simp at hd

def wT (tt : TT) (N : Nat) (ops : Array Oper) (T : Env) (i : Nat) (y : V) : Option (Ctx × Nat × Nat × V) := match AT N ops T i with
  | some (ctx, .load t x) => match bY T ctx x with
    | some (.lp l ix o) => match tt t, CN tt t y o with
      | some _, some v => some (ctx, l, ix, v)
      | _, _ => none
    | _ => none
  | _ => none

theorem aAa (ctx : Ctx) (lo ix : Nat) (y x : V) (hs : aJ i n = i :: aJ (i + 1) n) (hd : wT tt N ops T i y = some (ctx, lo, ix, x)) {k : Nat} {es : List V} (hl : H[lo]? = some (.vec k es)) (hy : gB T ctx = true → es[ix]? = some y)
    (h : RWs P tt N ops (aJ (i + 1) n) (T.bO (cB ops i) (ctx, x)) H K) : RWs P tt N ops (aJ i n) T H K := by
  unfold wT at hd
  split at hd
  · rename_i ctx' t p hp
    split at hd
    · rename_i l ix' o he
      split at hd
      · rename_i e v ht hv
        simp at hd; obtain ⟨rfl, rfl, rfl, rfl⟩ := hd
        exact UQ (y := v) hs hp (fun hg => ⟨_, _, _, _, _, _, _, _, he, hl, hy hg, ht, hv, h⟩) (fun _ => h)
      · simp at hd
    · simp at hd
  · simp at hd

def sW (tt : TT) (N : Nat) (ops : Array Oper) (T : Env) (i : Nat) (y : V) : Option (Nat × Nat × V) := match fY N ops i with
  | some (.store t p x) => match bY T [] p, bY T [] x, tt t with
    | some (.lp l ix o), some v, some e => match pN v e.size, IE y o v with
      | true, some y' => some (l, ix, y')
      | _, _ => none
    | _, _, _ => none
  | _ => none

theorem ZL (lo ix : Nat) (y y' : V) (hs : aJ i n = i :: aJ (i + 1) n) (hn : cB ops i = none) (hd : sW tt N ops T i y = some (lo, ix, y')) {k : Nat} {es : List V} (hl : H[lo]? = some (.vec k es)) (hy : es[ix]? = some y)
    (h : RWs P tt N ops (aJ (i + 1) n) T (H.set lo (.vec k (es.set ix y'))) K) : RWs P tt N ops (aJ i n) T H K := by
  unfold sW at hd
  split at hd
  · rename_i t p x hp
    split at hd
    · rename_i l ix' o v e hep hex ht
      split at hd
      · rename_i y'' hz hv
        simp at hd; obtain ⟨rfl, rfl, rfl⟩ := hd
        refine tS hs hp ?_
        rw [hn]
        exact ⟨_, _, _, _, _, _, _, _, _, hep, hex, hl, hy, ht, hz, hv, h⟩
      · simp at hd
    · simp at hd
  · simp at hd

def rF (tt : TT) (N : Nat) (ops : Array Oper) (T : Env) (i : Nat) : Option (Nat × V) := match fY N ops i with
  | some (.alloc t) => match tt t with
    | some e => match dS e.zero with
      | true => some (e.zero.cells.length, e.zero)
      | false => none
    | none => none
  | some (.box _ x) => match bY T [] x with
    | some v => match dS v with
      | true => some (v.cells.length, v)
      | false => none
    | none => none
  | _ => none

theorem YS (k : Nat) (z : V) (hs : aJ i n = i :: aJ (i + 1) n) (hd : rF tt N ops T i = some (k, z))
    (h : RWs P tt N ops (aJ (i + 1) n) (T.bO (cB ops i) ([], .lp H.length 0 0)) (H ++ [.vec k [z]]) K) : RWs P tt N ops (aJ i n) T H K := by
  unfold rF at hd
  split at hd
  · rename_i t hp
    split at hd
    · rename_i e ht
      split at hd
      · rename_i hz
        simp at hd; obtain ⟨rfl, rfl⟩ := hd
        exact tS hs hp ⟨e, e.zero, ht, fun _ _ _ h => h, hz, .inl h⟩
      · simp at hd
    · simp at hd
  · rename_i t x hp
    split at hd
    · rename_i v hv
      split at hd
      · rename_i hz
        simp at hd; obtain ⟨rfl, rfl⟩ := hd
        exact tS hs hp ⟨v, hv, hz, .inl h⟩
      · simp at hd
    · simp at hd
  · simp at hd

theorem VC (k : Nat) (z z' : V) (hs : aJ i n = i :: aJ (i + 1) n) (hd : rF tt N ops T i = some (k, z)) (hal : (match fY N ops i with | some (.alloc _) => true | _ => false) = true) (hsub : ∀ g w v, Rep g w z v → Rep g w z' v) (hn : dS z' = true) (hk : z'.cells.length = k)
    (h : RWs P tt N ops (aJ (i + 1) n) (T.bO (cB ops i) ([], .lp H.length 0 0)) (H ++ [.vec k [z']]) K ∨ RWs P tt N ops (aJ (i + 1) n) (T.bO (cB ops i) ([], .rp z')) H K) : RWs P tt N ops (aJ i n) T H K := by
  subst hk
  unfold rF at hd
  split at hd
  · rename_i t hp
    split at hd
    · rename_i e ht
      split at hd
      · simp at hd; obtain ⟨_, rfl⟩ := hd
        exact tS hs hp ⟨e, z', ht, hsub, hn, h⟩
      · simp at hd
    · simp at hd
  · rename_i t x hp
    rw [hp] at hal; simp at hal
  · simp at hd

theorem ZW (k : Nat) (z : V) (hs : aJ i n = i :: aJ (i + 1) n) (hd : rF tt N ops T i = some (k, z))
    (h : RWs P tt N ops (aJ (i + 1) n) (T.bO (cB ops i) ([], .rp z)) H K) : RWs P tt N ops (aJ i n) T H K := by
  unfold rF at hd
  split at hd
  · rename_i t hp
    split at hd
    · rename_i e ht
      split at hd
      · rename_i hz
        simp at hd; obtain ⟨rfl, rfl⟩ := hd
        exact tS hs hp ⟨e, e.zero, ht, fun _ _ _ h => h, hz, .inr h⟩
      · simp at hd
    · simp at hd
  · rename_i t x hp
    split at hd
    · rename_i v hv
      split at hd
      · rename_i hz
        simp at hd; obtain ⟨rfl, rfl⟩ := hd
        exact tS hs hp ⟨v, hv, hz, .inr h⟩
      · simp at hd
    · simp at hd
  · simp at hd

theorem BU {H0 : Frame} {L : List (Nat × Nat × List V)} (k : Nat) (z z' : V) (hs : aJ i n = i :: aJ (i + 1) n) (hd : rF tt N ops T i = some (k, z)) (hal : (match fY N ops i with | some (.alloc _) => true | _ => false) = true) (hsub : ∀ g w v, Rep g w z v → Rep g w z' v) (hn : dS z' = true) (hk : z'.cells.length = k) (hO : aL H0 H L)
    (h : ∀ lo H', aL H0 H' (L ++ [(lo, k, [z'])]) → RWs P tt N ops (aJ (i + 1) n) (T.bO (cB ops i) ([], .lp lo 0 0)) H' K) : RWs P tt N ops (aJ i n) T H K :=
  VC k z z' hs hd hal hsub hn hk (.inl (h _ _ (hO.new k [z'])))

theorem mP {H0 : Frame} {L : List (Nat × Nat × List V)} (k : Nat) (z : V) (hs : aJ i n = i :: aJ (i + 1) n) (hd : rF tt N ops T i = some (k, z)) (hO : aL H0 H L)
    (h : ∀ lo H', aL H0 H' (L ++ [(lo, k, [z])]) → RWs P tt N ops (aJ (i + 1) n) (T.bO (cB ops i) ([], .lp lo 0 0)) H' K) : RWs P tt N ops (aJ i n) T H K :=
  YS k z hs hd (h _ _ (hO.new k [z]))

theorem vI {H0 : Frame} {L : List (Nat × Nat × List V)} (ctx : Ctx) (q lo k ix : Nat) (y x : V) (es : List V) (hs : aJ i n = i :: aJ (i + 1) n) (hd : wT tt N ops T i y = some (ctx, lo, ix, x)) (hO : aL H0 H L) (hL : L[q]? = some (lo, k, es))
    (b : Bool) (hb : gB T ctx = b) (hy : b = true → es[ix]? = some y)
    (h : RWs P tt N ops (aJ (i + 1) n) (T.bO (cB ops i) (ctx, x)) H K) : RWs P tt N ops (aJ i n) T H K :=
  aAa ctx lo ix y x hs hd (hO.at q hL) (fun h => hy (hb ▸ h)) h

theorem WZ {H0 : Frame} {L : List (Nat × Nat × List V)} (q lo k ix : Nat) (y y' : V) (es : List V) (hs : aJ i n = i :: aJ (i + 1) n) (hn : cB ops i = none) (hd : sW tt N ops T i y = some (lo, ix, y')) (hO : aL H0 H L) (hL : L[q]? = some (lo, k, es))
    (hy : es[ix]? = some y) (h : ∀ H', aL H0 H' (L.set q (lo, k, es.set ix y')) → RWs P tt N ops (aJ (i + 1) n) T H' K) : RWs P tt N ops (aJ i n) T H K :=
  ZL lo ix y y' hs hn hd (hO.at q hL) hy (h _ (hO.put q hL _))

theorem tO {H0 : Frame} {L : List (Nat × Nat × List V)} (ctx : Ctx) (fid : Nat) (as0 : List V) (x : V) (b : Bool) (hs : aJ i n = i :: aJ (i + 1) n) (hd : uZ N ops T i = some (ctx, fid, as0)) (hb : gB T ctx = b) (hc : b = true → cF P fid as0 x) (hO : aL H0 H L)
    (h : ∀ H', aL H0 H' L → RWs P tt N ops (aJ (i + 1) n) (T.bO (cB ops i) (ctx, x)) H' K) : RWs P tt N ops (aJ i n) T H K :=
  ZA ctx fid as0 x b hs hd hb hc fun H' hx => h H' (hO.call hx)

theorem aAA {H0 : Frame} {L : List (Nat × Nat × List V)} (q lo m : Nat) (te : TyE) (es ys : List V) (x : V) (hs : aJ i n = i :: aJ (i + 1) n) (hd : xO tt N ops T i = some (.msl te.size lo 0 m, x, te)) (hO : aL H0 H L) (hL : L[q]? = some (lo, te.size, es)) (hm : m = es.length) (hy : sZ te.size H x = some ys)
    (hb : (es.length + ys.length) * te.bytes ≤ 140737488355328) (h63 : es.length + ys.length ≤ 9223372036854775807)
    (h : ∀ lo' H', aL H0 H' (L.set q (lo', te.size, es ++ ys)) → RWs P tt N ops (aJ (i + 1) n) (T.bO (cB ops i) ([], .msl te.size lo' 0 (es.length + ys.length))) H' K) : RWs P tt N ops (aJ i n) T H K := by
  subst hm
  exact MR hs hd (by simp [yR, hO.at q hL]) hy hb h63 (h _ _ (hO.app q hL _))

theorem aAk {H0 : Frame} {L : List (Nat × Nat × List V)} (te : TyE) (ys : List V) (el : Nat → V) (x : V) (hs : aJ i n = i :: aJ (i + 1) n) (hd : xO tt N ops T i = some (.sl true 0 el, x, te)) (hO : aL H0 H L) (hy : sZ te.size H x = some ys)
    (hb : ys.length * te.bytes ≤ 140737488355328) (h63 : ys.length ≤ 9223372036854775807)
    (h : ∀ lo' H', aL H0 H' (L ++ [(lo', te.size, ys)]) → RWs P tt N ops (aJ (i + 1) n) (T.bO (cB ops i) ([], .msl te.size lo' 0 ys.length)) H' K) : RWs P tt N ops (aJ i n) T H K := by
  refine MR (es := []) hs hd rfl hy (by simpa using hb) (by simpa using h63) ?_
  have := h _ _ (hO.new te.size ys)
  simpa [vR] using this

end rules
theorem EW {H0 : Frame} {L : List (Nat × Nat × List V)} {c : Code} {l : List (Nat × V)} (i t k : Nat) {el : Nat → V} (hO : aL H0 H L) (hi : l[i]? = some (t, .sl true 0 el))
    (next : ∀ lo H', aL H0 H' (L ++ [(lo, k, [])]) → AWP P ro N c (Env.ofL (l.set i (t, .msl k lo 0 0))) H' ds Q) : AWP P ro N c (Env.ofL l) H ds Q :=
  aAK i hi (next _ _ (hO.new k []))

theorem gS.freeze {t k lo n : Nat} {es : List V} {n' : Nat} {el : Nat → V} (ht : T t = some ([], .msl k lo 0 n)) (hl : H[lo]? = some (.vec k es)) (hn : n = es.length) (hn' : n' = es.length)
    (he : ∀ j, j < es.length → es.getD j .bad = el j) : gS N T H (T.set t ([], .sl false n' el)) (H.set lo .dead) := by
  subst hn; subst hn'
  intro g w a ds hg
  obtain ⟨s1, s2, s3⟩ := hg.sr.freeze hl
  refine ⟨_, hg.step s2 s1 ?_ rfl rfl, s2⟩
  have htr := hg.tr.ext s2
  intro u c' x hu
  simp only [Env.set] at hu
  split at hu
  · rename_i hb
    have := Nat.eq_of_beq_eq_true hb
    subst this
    simp at hu; obtain ⟨rfl, rfl⟩ := hu
    obtain ⟨v, hv, hrep⟩ := (hg.tr u [] _ ht).1 (by simp [cC])
    exact ⟨fun _ => ⟨v, hv, (s3 v hrep).FC he⟩, fun hnc => absurd (by simp [cC]) hnc⟩
  · split at hu
    · rename_i y hy
      split at hu
      · cases hu
      · simp at hu; subst hu
        exact htr u c' x hy
    · cases hu

theorem QM {ops : Array Oper} {K : Env → aR → Prop} {is : List Nat} {T' : Env} {H' : aR} (hne : is ≠ []) (hg : gS N T H T' H') (h : RWs P tt N ops is T' H' K) : RWs P tt N ops is T H K := by
  cases is with
  | nil => exact absurd rfl hne
  | cons i is =>
    obtain ⟨T1, H1, hg1, hr⟩ := h
    refine ⟨T1, H1, fun g w a ds hgd => ?_, hr⟩
    obtain ⟨g1, a1, a2⟩ := hg g w a ds hgd
    obtain ⟨g2, b1, b2⟩ := hg1 g1 w a ds a1
    exact ⟨g2, b1, a2.trans b2⟩

theorem xN {ops : Array Oper} {K : Env → aR → Prop} {i n : Nat} {H0 : Frame} {L : List (Nat × Nat × List V)} {α : Type} [Inhabited α] {e : α → V} (xs : List α) (q t k lo m : Nat) (L' : List (Nat × Nat × List V)) (hs : aJ i n = i :: aJ (i + 1) n) (hO : aL H0 H L) (ht : T t = some ([], .msl k lo 0 m))
    (hL : L[q]? = some (lo, k, xs.map e)) (hm : m = xs.length) (hl : L' = L.eraseIdx q) (h : ∀ H', aL H0 H' L' → RWs P tt N ops (aJ i n) (T.set t ([], eL e xs)) H' K) : RWs P tt N ops (aJ i n) T H K :=
  QM (by rw [hs]; simp) (gS.freeze ht (hO.at q hL) (by simpa using hm) (n' := xs.length) (by simp) (fun j hj => by
    have hj' : j < xs.length := by simpa using hj
    simp [List.getD_eq_getElem?_getD, hj'])) (h _ (hO.kill q hL hl))

def Has (T : Env) (l : List (Nat × V)) : Prop := ∃ l0 : List (Nat × V), l0.map (fun p => T p.1) = l0.map (fun p => some ([], p.2)) ∧ l0.map (·.1) = l.map (·.1) ∧ oH (l0.map (·.2)) (l.map (·.2))

theorem Has.eq {l : List (Nat × V)} (h : l.map (fun p => T p.1) = l.map (fun p => some ([], p.2))) : Has T l := ⟨l, h, rfl, oH.refl _⟩

theorem bD {c : Code} {l : List (Nat × V)} (h : Has T l) (next : AWP P ro N c (Env.ofL l) H ds Q) : AWP P ro N c T H ds Q := by
  obtain ⟨l0, h1, h2, h3⟩ := h
  exact aAr l0 h1 (ZX l0 l h2 h3 next)

def Cl (N : Nat) (Q : Exit → Env → aR → List Nat → Prop) (e : Exit) (T : Env) (H : aR) (ds : List Nat) : Prop := ∀ g w a, Good N g w T H ds a → ∃ g' T' H', Good N g' w T' H' ds a ∧ Ext g w g' w ∧ Q e T' H' ds

theorem HB {c : Code} (h : AWP P ro N c T H ds (Cl N Q)) : AWP P ro N c T H ds Q := by
  intro g w a R hg hr
  refine h g w a R hg ?_
  intro e T' H' ds' g' w' a' q hg' hx
  obtain ⟨g2, T2, H2, hg2, hx2, hq⟩ := q g' w' a' hg'
  exact hr _ _ _ _ _ _ _ hq hg2 (hx.trans hx2)

theorem AZ {e : Exit} {T' : Env} {H' : aR} (hg : gS N T H T' H') (h : Cl N Q e T' H' ds) : Cl N Q e T H ds := by
  intro g w a hgd
  obtain ⟨g1, a1, a2⟩ := hg g w a ds hgd
  obtain ⟨g2, T2, H2, b1, b2, b3⟩ := h g1 w a a1
  exact ⟨g2, T2, H2, b1, a2.trans b2, b3⟩

theorem aI {e : Exit} (h : Q e T H ds) : Cl N Q e T H ds := fun g w _ hg => ⟨g, T, H, hg, Ext.refl g w, h⟩

theorem gS.sub {T' : Env} (h : WD T' T) : gS N T H T' H := fun g w _ _ hg => ⟨g, ⟨hg.sr, fun t c x ht => hg.tr t c x (h t _ ht), hg.df, hg.dl, hg.sz⟩, Ext.refl g w⟩

theorem gS.trans {T' T'' : Env} {H' H'' : aR} (h : gS N T H T' H') (h' : gS N T' H' T'' H'') : gS N T H T'' H'' := fun g w a ds hg => by
  obtain ⟨g1, a1, a2⟩ := h g w a ds hg
  obtain ⟨g2, b1, b2⟩ := h' g1 w a ds a1
  exact ⟨g2, b1, a2.trans b2⟩

theorem gS.weak {l l' : List (Nat × V)} (hk : l.map (·.1) = l'.map (·.1)) (hs : oH (l.map (·.2)) (l'.map (·.2))) : gS N (Env.ofL l) H (Env.ofL l') H := fun g w a ds hg => by
  refine ⟨g, ⟨hg.sr, ?_, hg.df, hg.dl, hg.sz⟩, Ext.refl g w⟩
  intro t c' x ht
  obtain ⟨rfl, x0, h0, hsub⟩ := GG hk hs ht
  obtain ⟨v, hv, hrep⟩ := (hg.tr t [] x0 h0).1 (by simp [cC])
  exact ⟨fun _ => ⟨v, hv, hsub g w v hrep⟩, fun h => absurd (by simp [cC]) h⟩

theorem Has.ghost {l : List (Nat × V)} (h : Has T l) : gS N T H (Env.ofL l) H := by
  obtain ⟨l0, h1, h2, h3⟩ := h
  exact (gS.sub (JI h1)).trans (gS.weak h2 h3)

theorem gS.own {l : List (Nat × V)} {i t k : Nat} {el : Nat → V} (hi : l[i]? = some (t, .sl true 0 el)) : gS N (Env.ofL l) H (Env.ofL (l.set i (t, .msl k H.length 0 0))) (H ++ [.vec k []]) := by
  intro g w a ds hg
  have hm := hg.sr.more (b := w.heap.size) (o := 0) (k := k) (cap := 0) (xs := []) (by simp) (by simp) (fun _ => undef) (by simp) (by simp) (fun _ _ _ _ _ _ _ hj => by simp at hj)
  have hx : Ext g w (g.more w.heap.size 0 k 0) w := (Ext.refl g w).more (.inl (Nat.le_refl _))
  refine ⟨_, hg.step hx hm ?_ rfl rfl, hx⟩
  have htr := hg.tr.ext hx
  intro u c' x hu
  rcases AV hi hu with h | ⟨rfl, rfl, h⟩
  · exact htr u c' x h
  · obtain ⟨v, hv, hrep⟩ := (hg.tr u [] _ h).1 (by simp [cC])
    obtain ⟨a0, cap, rfl, hn, hz⟩ := hrep.slE
    have hc0 := hz rfl
    subst hc0
    refine ⟨fun _ => ⟨_, hv, ?_⟩, fun hnc => absurd (by simp [cC]) hnc⟩
    have := Rep.msl0 (g := g.more w.heap.size 0 k 0) (w := w) g.n 0 a0 (Nat.lt_succ_self _) (by simp [Gh.more, cU])
    rw [hg.sr.len]
    simpa [Gh.more, cU] using this

theorem gS.YA {α : Type} [Inhabited α] {e : α → V} {xs : List α} {l : List (Nat × V)} {i t k lo n : Nat} (hi : l[i]? = some (t, .msl k lo 0 n)) (hl : H[lo]? = some (.vec k (xs.map e))) (hn : n = xs.length) :
    gS N (Env.ofL l) H (Env.ofL (l.set i (t, eL e xs))) (H.set lo .dead) := by
  subst hn
  intro g w a ds hg
  obtain ⟨s1, s2, s3⟩ := hg.sr.freeze hl
  refine ⟨_, hg.step s2 s1 ?_ rfl rfl, s2⟩
  have htr := hg.tr.ext s2
  intro u c' x hu
  rcases AV hi hu with h | ⟨rfl, rfl, h⟩
  · exact htr u c' x h
  · obtain ⟨v, hv, hrep⟩ := (hg.tr u [] _ h).1 (by simp [cC])
    have h3 := s3 v (by simpa using hrep)
    refine ⟨fun _ => ⟨v, hv, ?_⟩, fun hnc => absurd (by simp [cC]) hnc⟩
    have := h3.FC (el' := fun i => e (xs.getD i default)) fun j hj => by
      have hj' : j < xs.length := by simpa using hj
      simp [List.getD_eq_getElem?_getD, hj']
    simpa [eL] using this

theorem cT {e : Exit} {l : List (Nat × V)} (h : Has T l) (next : Cl N Q e (Env.ofL l) H ds) : Cl N Q e T H ds := AZ h.ghost next

theorem DY {e : Exit} {H0 : Frame} {L L' : List (Nat × Nat × List V)} {α : Type} [Inhabited α] {en : α → V} (xs : List α) {l : List (Nat × V)} (i q : Nat) (t k lo n : Nat) (hO : aL H0 H L) (hi : l[i]? = some (t, .msl k lo 0 n)) (hL : L[q]? = some (lo, k, xs.map en)) (hn : n = xs.length)
    (hl : L' = L.eraseIdx q) (next : ∀ H', aL H0 H' L' → Cl N Q e (Env.ofL (l.set i (t, eL en xs))) H' ds) : Cl N Q e (Env.ofL l) H ds :=
  AZ (gS.YA hi (hO.at q hL) hn) (next _ (hO.kill q hL hl))

theorem OB {e : Exit} {H0 : Frame} {L : List (Nat × Nat × List V)} {l : List (Nat × V)} (i t k : Nat) {el : Nat → V} (hO : aL H0 H L) (hi : l[i]? = some (t, .sl true 0 el))
    (next : ∀ lo H', aL H0 H' (L ++ [(lo, k, [])]) → Cl N Q e (Env.ofL (l.set i (t, .msl k lo 0 0))) H' ds) : Cl N Q e (Env.ofL l) H ds :=
  AZ (gS.own hi) (next _ _ (hO.new k []))

open Classical in
noncomputable def bI {α : Type} (c : Prop) (k : Option α) : Option α := if c then k else none

theorem bJ {α : Type} {c : Prop} {k : Option α} {r : α} (h : bI c k = some r) : c ∧ k = some r := by
  unfold bI at h
  split at h
  · rename_i hc; exact ⟨hc, h⟩
  · cases h

theorem bC {α : Type} {c : Prop} {k : Option α} (h : c) : bI c k = k := by unfold bI; rw [if_pos h]

theorem bB {α β : Type} {a : Option α} {f : α → Option β} {r : β} (h : a.bind f = some r) : ∃ x, a = some x ∧ f x = some r := by
  cases a with
  | none => cases h
  | some x => exact ⟨x, rfl, h⟩

theorem zO {α : Type} {b : Bool} {x y : α} {z : α} (hb : b = true) (h : cond b x y = z) : x = z := by subst hb; exact h

theorem zW {α : Type} {b : Bool} {x y : α} {z : α} (hb : b = false) (h : cond b x y = z) : y = z := by subst hb; exact h

def hU {α : Type} [Inhabited α] (b : Bool) (k : Option α) : Option α := cond b k (some default)

theorem tI {α : Type} [Inhabited α] {b : Bool} {k : Option α} {r : α} (h : hU b k = some r) : b = true → k = some r := by
  intro hb; subst hb; exact h

end Go.Abs
namespace Go.Abs
open Go Go.RowKit
variable {P : Program} {tt : TT} {ro : Option Nat} {N : Nat} {T : Env} {H : aR} {ds : List Nat} {Q : Exit → Env → aR → List Nat → Prop}
theorem cF.sub {f : FuncId} {as0 as0' : List V} {r : V} (h : cF P f as0' r) (hs : oH as0 as0') : cF P f as0 r := fun H => (h H).sub hs

theorem cR {c : Code} (J : Env → aR → Prop) (hJ : ∀ T H, J T H → AWP P ro N c T H ds Q) (h : J T H) : AWP P ro N c T H ds Q := hJ T H h

theorem HW {α : Type} [Inhabited α] {e : α → V} : ∀ {l : List α}, aS (lI (l.map e)) (eL e l)
  | [] => UU
  | x :: r => XX (by simp) (fun i hi => by
      have hi' : i < (x :: r).length := by simpa using hi
      show (List.map e (x :: r)).getD i .bad = _
      simp only [List.getD_eq_getElem?_getD, List.getElem?_map, List.getElem?_eq_getElem hi']
      rfl)

theorem cG {α : Type} [Inhabited α] {e : α → V} {xs : List α} {j : Int} (h : 0 ≤ j ∧ j < (xs.length : Int)) : (xs.map e)[0 + j.toNat]? = some (e (xs.getD j.toNat default)) := by
  have : j.toNat < xs.length := by omega
  simp [List.getD_eq_getElem?_getD, this]

theorem vG {α : Type} [Inhabited α] {e : α → V} {xs : List α} {j : Int} {n : Nat} (h : 0 ≤ j ∧ j < (n : Int)) (hn : n = xs.length) : (xs.map e)[0 + j.toNat]? = some (e (xs.getD j.toNat default)) := by
  subst hn; exact cG h

theorem mO {α : Type} {e : α → V} {xs : List α} {i : Nat} {v : α} : (xs.map e).set (0 + i) (e v) = (xs.set i v).map e := by
  simp [List.map_set]

theorem SX {ops : Array Oper} {K : Env → aR → Prop} {i n : Nat} {H0 : Frame} {L : List (Nat × Nat × List V)} (q lo k ix : Nat) (y y' : V) (es : List V) (L' : List (Nat × Nat × List V)) (hs : aJ i n = i :: aJ (i + 1) n) (hn : cB ops i = none) (hd : sW tt N ops T i y = some (lo, ix, y')) (hO : aL H0 H L) (hL : L[q]? = some (lo, k, es))
    (hy : es[ix]? = some y) (hl : L' = L.set q (lo, k, es.set ix y')) (h : ∀ H', aL H0 H' L' → RWs P tt N ops (aJ (i + 1) n) T H' K) : RWs P tt N ops (aJ i n) T H K :=
  WZ q lo k ix y y' es hs hn hd hO hL hy (hl ▸ h)

open Classical in
noncomputable def GZ {α : Type} (g : Nat → Option α) : Option α := if h : ∃ k r, g k = some r then g (Classical.choose h) else none

theorem EO {α : Type} {g : Nat → Option α} {r : α} (h : GZ g = some r) : ∃ k, g k = some r := by
  unfold GZ at h
  split at h
  · exact ⟨_, h⟩
  · cases h

theorem JK {α : Type} [Inhabited α] {e : α → V} {zs : List α} : (List.range zs.length).map (fun i => e (zs.getD i default)) = zs.map e := by
  apply List.ext_getElem
  · simp
  · intro i h1 h2
    have : i < zs.length := by simpa using h2
    simp [List.getD_eq_getElem?_getD, this]

theorem yM {α : Type} [Inhabited α] {e : α → V} {zs : List α} {k : Nat} (hz : ∀ a, pN (e a) k = true) : sZ k H (eL e zs) = some (zs.map e) := by
  unfold sZ eL
  simp only [hz]
  rw [JK]

def yL (tt : TT) (N : Nat) (ops : Array Oper) (T : Env) (i : Nat) : Option (V × V × Nat × Nat) := match xO tt N ops T i with
  | some (s, x, te) => some (s, x, te.size, te.bytes)
  | none => none

theorem zD {ops : Array Oper} {i : Nat} {s x : V} {k bytes : Nat} (h : yL tt N ops T i = some (s, x, k, bytes)) : ∃ te, xO tt N ops T i = some (s, x, te) ∧ te.size = k ∧ te.bytes = bytes := by
  unfold yL at h
  split at h
  · rename_i s' x' te hd
    simp at h; obtain ⟨rfl, rfl, rfl, rfl⟩ := h
    exact ⟨te, hd, rfl, rfl⟩
  · cases h

section rules
variable {ops : Array Oper} {K : Env → aR → Prop} {i n : Nat}
theorem ZB {H0 : Frame} {L : List (Nat × Nat × List V)} {α : Type} {e : α → V} (xs zs : List α) (q lo k bytes : Nat) (x : V) (L' : Nat → List (Nat × Nat × List V)) (hs : aJ i n = i :: aJ (i + 1) n) (hd : yL tt N ops T i = some (.msl k lo 0 xs.length, x, k, bytes)) (hO : aL H0 H L) (hL : L[q]? = some (lo, k, xs.map e))
    (hy : sZ k H x = some (zs.map e)) (hb : (xs.length + zs.length) * bytes ≤ 140737488355328 ∧ xs.length + zs.length ≤ 9223372036854775807) (hl : ∀ lo', L' lo' = L.set q (lo', k, (xs ++ zs).map e))
    (h : ∀ lo' H', aL H0 H' (L' lo') → RWs P tt N ops (aJ (i + 1) n) (T.bO (cB ops i) ([], .msl k lo' 0 (xs ++ zs).length)) H' K) : RWs P tt N ops (aJ i n) T H K := by
  obtain ⟨te, hd', rfl, rfl⟩ := zD hd
  refine aAA q lo xs.length te _ _ x hs hd' hO hL (by simp) hy (by simpa using hb.1) (by simpa using hb.2) fun lo' H' hO' => ?_
  have := h lo' H' (by rw [hl, List.map_append]; exact hO')
  simpa using this

theorem QU {H0 : Frame} {L : List (Nat × Nat × List V)} {α : Type} {e : α → V} (zs : List α) (el : Nat → V) (k bytes : Nat) (x : V) (L' : Nat → List (Nat × Nat × List V)) (hs : aJ i n = i :: aJ (i + 1) n) (hd : yL tt N ops T i = some (.sl true 0 el, x, k, bytes)) (hO : aL H0 H L)
    (hy : sZ k H x = some (zs.map e)) (hb : zs.length * bytes ≤ 140737488355328 ∧ zs.length ≤ 9223372036854775807) (hl : ∀ lo', L' lo' = L ++ [(lo', k, zs.map e)])
    (h : ∀ lo' H', aL H0 H' (L' lo') → RWs P tt N ops (aJ (i + 1) n) (T.bO (cB ops i) ([], .msl k lo' 0 zs.length)) H' K) : RWs P tt N ops (aJ i n) T H K := by
  obtain ⟨te, hd', rfl, rfl⟩ := zD hd
  refine aAk te _ el x hs hd' hO hy (by simpa using hb.1) (by simpa using hb.2) fun lo' H' hO' => ?_
  have := h lo' H' (by rw [hl]; exact hO')
  simpa using this

end rules
def mF (P : Program) (f : FuncId) (lo k : Nat) (es es' : List V) (args : List V) (r : V) : Prop := ∀ H, H[lo]? = some (.vec k es) → lM P f args H fun x H' => x = r ∧ pK ⟨H, [lo], []⟩ H' ∧ H'[lo]? = some (.vec k es') ∧ es'.length = es.length

theorem YR {ops : Array Oper} {K : Env → aR → Prop} {i n : Nat} {H0 : Frame} {L L' : List (Nat × Nat × List V)} (q lo k : Nat) (es es' : List V) (fid : Nat) (as0 : List V) (x : V) (hs : aJ i n = i :: aJ (i + 1) n) (hd : mU N ops T i = some (fid, as0)) (hc : mF P fid lo k es es' as0 x) (hO : aL H0 H L)
    (hq : L[q]? = some (lo, k, es)) (hl : L' = L.set q (lo, k, es')) (h : ∀ H', aL H0 H' L' → es'.length = es.length → RWs P tt N ops (aJ (i + 1) n) (T.bO (cB ops i) ([], x)) H' K) : RWs P tt N ops (aJ i n) T H K :=
  DD hs hd (hc H (hO.at q hq)) fun _ H' ⟨e, hx, hl', hlen⟩ => e ▸ h H' (hl ▸ hO.aAS q hq hx hl') hlen

def EY (P : Program) (f : FuncId) (args : List V) (r : Nat → V) (k : Nat) (es : List V) : Prop := ∀ H, lM P f args H fun x H' => ∃ lo, x = r lo ∧ aL ⟨H, [], []⟩ H' [(lo, k, es)]

theorem aL.join {H0 : Frame} {H H' : aR} {L : List (Nat × Nat × List V)} {p : Nat × Nat × List V} (h : aL H0 H L) (h' : aL ⟨H, [], []⟩ H' [p]) : aL H0 H' (L ++ [p]) := by
  have hc := h.call h'.out
  have hp : H.length ≤ p.1 := by
    rcases (h'.mem 0 p.1 p.2.1 p.2.2 rfl).1 with h | h
    · exact h
    · simp at h
  refine ⟨hc.ext, fun i j a b hi hj hij => ?_, fun i lo k es hi => ?_, hc.gm, fun i j a b hi hj => ?_, hc.gn⟩
  rotate_left 2
  · rcases tG hj with ⟨_, hj⟩ | ⟨_, e2⟩
    · exact h.gl i j a b hi hj
    · have := h.glt hi; rw [e2]; omega
  · rcases tG hi with ⟨_, hi⟩ | ⟨e1, e2⟩ <;> rcases tG hj with ⟨_, hj⟩ | ⟨e3, e4⟩
    · exact h.ne i j a b hi hj hij
    · have := h.lt hi; rw [e4]; omega
    · have := h.lt hj; rw [e2]; omega
    · exact absurd (e1.trans e3.symm) hij
  · rcases tG hi with ⟨_, hi⟩ | ⟨rfl, hp'⟩
    · exact hc.mem i lo k es hi
    · subst hp'
      exact ⟨.inl (Nat.le_trans h.ext.1 hp), (h'.mem 0 _ _ _ rfl).2⟩

theorem JD {ops : Array Oper} {K : Env → aR → Prop} {i n : Nat} {H0 : Frame} {L : List (Nat × Nat × List V)} {L' : Nat → List (Nat × Nat × List V)} (k : Nat) (es : List V) (fid : Nat) (as0 : List V) (x : Nat → V) (hs : aJ i n = i :: aJ (i + 1) n) (hd : mU N ops T i = some (fid, as0)) (hc : EY P fid as0 x k es) (hO : aL H0 H L)
    (hl : ∀ lo, L' lo = L ++ [(lo, k, es)]) (h : ∀ lo H', aL H0 H' (L' lo) → RWs P tt N ops (aJ (i + 1) n) (T.bO (cB ops i) ([], x lo)) H' K) : RWs P tt N ops (aJ i n) T H K :=
  DD hs hd (hc H) fun _ H' ⟨lo, e, hO'⟩ => e ▸ h lo H' (hl lo ▸ hO.join hO')

def aA4 (tt : TT) (N : Nat) (ops : Array Oper) (T : Env) (i : Nat) : Option (Ctx × List V) := match AT N ops T i with
  | some (ctx, .buildSlice t k parts) => match zZ tt T ctx (.buildSlice t k parts) with
    | some xs => some (ctx, xs)
    | none => none
  | _ => none

def TZ (tt : TT) (N : Nat) (ops : Array Oper) (T : Env) (i : Nat) : Option (Bool × Nat × (Nat → V)) := match fY N ops i with
  | some (.binOp .eql t x (.const (.slice none 0 0)) _) => match bY T [] x, tt t with
    | some (.sl z n el), some ⟨.slice _, _, _, _⟩ => some (z, n, el)
    | _, _ => none
  | _ => none

theorem XV {ops : Array Oper} {K : Env → aR → Prop} {i n : Nat} (z : Bool) (m : Nat) (el : Nat → V) (hs : aJ i n = i :: aJ (i + 1) n) (hd : TZ tt N ops T i = some (z, m, el))
    (h : ∀ b : Bool, (b = true → m = 0) → RWs P tt N ops (aJ (i + 1) n) (T.bO (cB ops i) ([], .lit (.bool b))) H K) : RWs P tt N ops (aJ i n) T H K := by
  unfold TZ at hd
  split at hd
  · rename_i t x _ hp
    split at hd
    · rename_i z' n' el' e q1 q2 q3 hx ht
      simp at hd; obtain ⟨rfl, rfl, rfl⟩ := hd
      exact tS hs hp ⟨_, _, _, _, _, _, _, hx, ht, h⟩
    · cases hd
  · cases hd

section drawn
variable {ops : Array Oper} {K : PE → aR → Prop} {i n : Nat} {T : PE} {pl : Oper → Bool}
theorem QG {H0 : Frame} {L : List (Nat × Nat × List V)} (fid : Nat) (as0 : List V) (x : V) (hs : aJ i n = i :: aJ (i + 1) n) (hd : mU N ops (lift T) i = some (fid, as0)) (hc : cF P fid as0 x) (hO : aL H0 H L)
    (h : ∀ H', aL H0 H' L → RD P tt N pl ops (aJ (i + 1) n) (T.bO (cB ops i) x) H' K) : RD P tt N pl ops (aJ i n) T H K :=
  YE hs hd hc fun H' hx => h H' (hO.call hx)

theorem QT {H0 : Frame} {L : List (Nat × Nat × List V)} {α : Type} {e : α → V} (xs zs : List α) (q lo k bytes : Nat) (x : V) (L' : Nat → List (Nat × Nat × List V)) (hs : aJ i n = i :: aJ (i + 1) n) (hd : yL tt N ops (lift T) i = some (.msl k lo 0 xs.length, x, k, bytes)) (hO : aL H0 H L) (hL : L[q]? = some (lo, k, xs.map e))
    (hy : sZ k H x = some (zs.map e)) (hb : (xs.length + zs.length) * bytes ≤ 140737488355328 ∧ xs.length + zs.length ≤ 9223372036854775807) (hl : ∀ lo', L' lo' = L.set q (lo', k, (xs ++ zs).map e))
    (h : ∀ lo' H', aL H0 H' (L' lo') → RD P tt N pl ops (aJ (i + 1) n) (T.bO (cB ops i) (.msl k lo' 0 (xs ++ zs).length)) H' K) : RD P tt N pl ops (aJ i n) T H K := by
  obtain ⟨te, hd', rfl, rfl⟩ := zD hd
  refine XE (es := xs.map e) hs hd' (by simp [yR, hO.at q hL]) hy (by simpa using hb.1) (by simpa using hb.2) ?_
  have := h _ _ (by rw [hl]; exact hO.app q hL (n := xs.length) ((xs ++ zs).map e))
  simpa using this

theorem YN {H0 : Frame} {L : List (Nat × Nat × List V)} (q lo k ix : Nat) (y x : V) (es : List V) (hs : aJ i n = i :: aJ (i + 1) n) (hp : (fY N ops i).isSome = true) (hq : qH pl ops i = true) (hd : wT tt N ops (lift T) i y = some ([], lo, ix, x)) (hO : aL H0 H L) (hL : L[q]? = some (lo, k, es)) (hy : es[ix]? = some y)
    (h : RD P tt N pl ops (aJ (i + 1) n) (T.bO (cB ops i) x) H K) : RD P tt N pl ops (aJ i n) T H K := by
  obtain ⟨op, hop⟩ := Option.isSome_iff_exists.1 hp
  unfold wT at hd
  split at hd
  · rename_i ctx t p hc
    obtain ⟨o, ho, rfl, _, _, _⟩ := tM (T := lift T) hop
    obtain ⟨o', ho', he, _, _, _⟩ := AF hc
    rw [ho] at ho'; cases ho'
    split at hd
    · rename_i l ix' o2 hev
      split at hd
      · rename_i e v ht hv
        simp at hd; obtain ⟨rfl, rfl, rfl, rfl⟩ := hd
        refine SI hs hop (fun _ => hq) (by rw [he]; rfl) (by rw [he]; rfl) ?_
        rw [he]
        exact ⟨_, _, _, _, _, _, _, _, hev, hO.at q hL, hy, ht, hv, h⟩
      · simp at hd
    · simp at hd
  · simp at hd

theorem WM {H0 : Frame} {L : List (Nat × Nat × List V)} (q lo k ix : Nat) (y y' : V) (es : List V) (L' : List (Nat × Nat × List V)) (hs : aJ i n = i :: aJ (i + 1) n) (hn : cB ops i = none) (hd : sW tt N ops (lift T) i y = some (lo, ix, y')) (hO : aL H0 H L) (hL : L[q]? = some (lo, k, es))
    (hy : es[ix]? = some y) (hl : L' = L.set q (lo, k, es.set ix y')) (h : ∀ H', aL H0 H' L' → RD P tt N pl ops (aJ (i + 1) n) T H' K) : RD P tt N pl ops (aJ i n) T H K := by
  subst hl
  unfold sW at hd
  split at hd
  · rename_i t p x hp
    split at hd
    · rename_i l ix' o v e hep hex ht
      split at hd
      · rename_i y'' hz hv
        simp at hd; obtain ⟨rfl, rfl, rfl⟩ := hd
        refine SI hs hp (fun h => by cases h) rfl rfl ?_
        rw [hn]
        exact ⟨_, _, _, _, _, _, _, _, _, hep, hex, hO.at q hL, hy, ht, hz, hv, h _ (hO.put q hL _)⟩
      · simp at hd
    · simp at hd
  · simp at hd

def LR (N : Nat) (ops : Array Oper) (T : PE) (i : Nat) : Option Op := match ops[i]? with
  | some o => match dOk N o, oL ops T o with
    | true, some true => some o.op
    | _, _ => none
  | none => none

theorem NO {op : Op} (hs : aJ i n = i :: aJ (i + 1) n) (hp : LR N ops T i = some op) (hq : jK op = 1 → qH pl ops i = true) (hz : (nF op = false ∧ kB op = false) ∨ sU pl ops i = true) (h : lH P tt (lift T) [] op H (fun x H' => (xM op = true → cY H H') ∧ RD P tt N pl ops (aJ (i + 1) n) (T.bO (cB ops i) x) H' K)) :
    RD P tt N pl ops (aJ i n) T H K := by
  rw [hs]
  unfold LR at hp
  split at hp
  · rename_i o ho
    split at hp
    · rename_i hd hg
      simp at hp; subst hp
      have hdst : cB ops i = o.dst := by simp [cB, ho]
      rw [hdst] at h
      have hz' : clo pl ops o = false := by
        rcases hz with hz | hz
        · exact KH hz.1 hz.2
        · exact QX ho hz
      exact ⟨o, ho, hd, true, hg, ⟨fun _ => .inr ⟨XM (fun h1 => by have := hq h1; simpa [qH, ho] using this) h, .inl ⟨hz', jR (fun x H' hx => ⟨fun hqu => hx.1 (by unfold quiet at hqu; rw [Bool.and_eq_true] at hqu; exact hqu.1), hx.2⟩) h⟩⟩, fun h => by simp at h⟩⟩
    · cases hp
  · cases hp

def BM (N : Nat) (ops : Array Oper) (T : PE) (i : Nat) : Option (Nat × List V) := match LR N ops T i with
  | some (.call ⟨.value f, args, _⟩) => match bY (lift T) [] f, gZ (lift T) [] args.toList with
    | some (.fn (.func fid) ys cs), some xs => some (fid, ys ++ xs ++ cs)
    | _, _ => none
  | _ => none

theorem IW {H0 : Frame} {L : List (Nat × Nat × List V)} (fid : Nat) (as0 : List V) (x : V) (hs : aJ i n = i :: aJ (i + 1) n) (hd : BM N ops T i = some (fid, as0)) (hc : cF P fid as0 x) (hO : aL H0 H L)
    (h : ∀ H', aL H0 H' L → RD P tt N pl ops (aJ (i + 1) n) (T.bO (cB ops i) x) H' K) (hz : sU pl ops i = true := by kernel_rfl) : RD P tt N pl ops (aJ i n) T H K := by
  unfold BM at hd
  split at hd
  · rename_i f args tys hp
    split at hd
    · rename_i ys cs xs hf hx
      simp at hd; obtain ⟨rfl, rfl⟩ := hd
      refine NO hs hp (fun h => by cases h) (.inr hz) ?_
      refine ⟨_, xs, hf, hx, ?_⟩
      refine Or.inl ?_
      have := hc H
      simp only [List.append_assoc] at this ⊢
      exact this.mono fun _ H' ⟨e, hx⟩ => ⟨fun _ => hx, e ▸ h H' (hO.call hx)⟩
    · simp at hd
  · simp at hd

def GS (tt : TT) (N : Nat) (ops : Array Oper) (T : PE) (i : Nat) (y : V) : Option (Nat × Nat × V) := match LR N ops T i with
  | some (.load t x) => match bY (lift T) [] x with
    | some (.lp l ix o) => match tt t, CN tt t y o with
      | some _, some v => some (l, ix, v)
      | _, _ => none
    | _ => none
  | _ => none

theorem ZR {H0 : Frame} {L : List (Nat × Nat × List V)} (q lo k ix : Nat) (y x : V) (es : List V) (hs : aJ i n = i :: aJ (i + 1) n) (hq : qH pl ops i = true) (hd : GS tt N ops T i y = some (lo, ix, x)) (hO : aL H0 H L) (hL : L[q]? = some (lo, k, es)) (hy : es[ix]? = some y)
    (h : RD P tt N pl ops (aJ (i + 1) n) (T.bO (cB ops i) x) H K) : RD P tt N pl ops (aJ i n) T H K := by
  unfold GS at hd
  split at hd
  · rename_i t p hp
    split at hd
    · rename_i l ix' o2 hev
      split at hd
      · rename_i e v ht hv
        simp at hd; obtain ⟨rfl, rfl, rfl⟩ := hd
        exact NO hs hp (fun _ => hq) (.inl ⟨rfl, rfl⟩) ⟨_, _, _, _, _, _, _, _, hev, hO.at q hL, hy, ht, hv, (fun h => by cases h), h⟩
      · simp at hd
    · simp at hd
  · simp at hd

theorem yN {is : List Nat} {t : Nat} {e : Bool} (ht : T t = some (.lit (.bool e))) (h1 : e = true → RD P tt N pl ops is (T.set t (.lit (.bool true))) H K) (h2 : e = false → RD P tt N pl ops is (T.set t (.lit (.bool false))) H K) : RD P tt N pl ops is T H K := by
  cases e with
  | true => exact QV ht rfl (h1 rfl)
  | false => exact QV ht rfl (h2 rfl)

end drawn
end Go.Abs
namespace Go.Abs
open Go Go.RowKit
variable {P : Program} {H : Type} {enc : TypeId × Value → H} {w : World}
def xC (w : World) : Gh := { fx := fun b o => (w.cell? ⟨b, o, none⟩).isSome = true, n := 0, blk := fun _ => 0, off := fun _ => 0, k := fun _ => 0, cap := fun _ => 0 }

theorem VX (w : World) : SR (xC w) w [] where
  len := rfl
  fxc _ _ h := h
  nt _ _ _ h := by simp at h
  kk _ _ _ h := by simp at h
  vec _ _ _ h := by simp at h
  raw _ _ h := by simp at h
  disj _ _ _ _ _ _ h := by simp at h
  rawd _ _ _ _ h := by simp at h

def uT (g : Gh) (w : World) (ys : List V) (cs : List Value) : Prop := ys.length = cs.length ∧ ∀ (i : Nat) y c, ys[i]? = some y → cs[i]? = some c → Rep g w y c ∧ one c = true

theorem uT.append {g : Gh} {ys zs : List V} {cs ds : List Value} (h : uT g w ys cs) (k : uT g w zs ds) : uT g w (ys ++ zs) (cs ++ ds) := by
  refine ⟨by simp [h.1, k.1], fun i y c hy hc => ?_⟩
  by_cases hi : i < ys.length
  · rw [List.getElem?_append_left hi] at hy
    rw [List.getElem?_append_left (by rw [← h.1]; exact hi)] at hc
    exact h.2 i y c hy hc
  · rw [List.getElem?_append_right (by omega)] at hy
    rw [List.getElem?_append_right (by rw [← h.1]; omega), ← h.1] at hc
    exact k.2 _ y c hy hc

theorem uT.val {g : Gh} {y : V} {cs : List Value} (hn : dS y = true) (h : uT g w y.cells cs) : ∃ c, c.cells.toList = cs ∧ Rep g w y c := by
  have single : y.cells = [y] → ∃ c, c.cells.toList = cs ∧ Rep g w y c := by
    intro hy
    rw [hy] at h
    match cs, h.1 with
    | [c], _ =>
      obtain ⟨h1, h2⟩ := h.2 0 y c rfl rfl
      exact ⟨c, by rw [pG h2], h1⟩
  cases y with
  | agg ys =>
    refine ⟨.agg cs.toArray, rfl, .agg ys cs.toArray (by simpa [V.cells] using h.1) (fun i x y hx hy => (h.2 i x y hx (by simpa using hy)).1) (fun i y hy => ?_)⟩
    have hlt : i < ys.length := by
      rw [show ys.length = cs.length from h.1]
      have := (Array.getElem?_eq_some_iff.1 hy).1
      simpa using this
    exact (h.2 i _ y (List.getElem?_eq_getElem hlt) (by simpa using hy)).2
  | tup => simp [dS] at hn
  | _ => exact single rfl

def Small (P : Program) (t : TypeId) (d : DataW H) : Prop := (DataW.weights P t d).all (· ≤ reachBytes) = true

def uS (enc : TypeId × Value → H) (P : Program) (w : World) (t : TypeId) {α : Type} (e : α → V) (ok : α → Prop) : Prop :=
  ∀ fuel cs x, DataW.trod enc P w 0 (fun _ => true) true fuel t cs = some x → Small P t x.1 → ∃ a : α, ok a ∧ uT (xC w) w (e a).cells cs

theorem uT.one {g : Gh} {y : V} {c : Value} (h : Rep g w y c) (h1 : Abs.one c = true) : uT g w [y] [c] := by
  refine ⟨rfl, fun i a b ha hb => ?_⟩
  cases i with
  | zero => simp at ha hb; subst ha; subst hb; exact ⟨h, h1⟩
  | succ i => simp at ha

theorem TC {t : TypeId} {k : IntKind} (ht : P.underlying t = some (.int k)) : uS enc P w t (pH k) (fun n => (Lit.int k n).wf = true) := by
  intro fuel cs x h _
  obtain ⟨n, rfl, hx, hw⟩ := DataW.trod_int ht h
  exact ⟨n, hw, .one (.lit _ rfl) rfl⟩

theorem LU {t : TypeId} (ht : P.underlying t = some .string) : uS enc P w t wJ (fun s => s.size ≤ maxLen) := by
  intro fuel cs x h _
  obtain ⟨s, rfl, hx, hw⟩ := DataW.trod_string ht h
  exact ⟨s, hw, .one (.lit _ rfl) rfl⟩

def IF (enc : TypeId × Value → H) (P : Program) (w : World) (fs : List Field) (o : Nat) {α : Type} (c : α → List V) (ok : α → Prop) : Prop :=
  ∀ n (xs : List (DataW H × List MemPlace)) (cs : List Value), xs.length = fs.length → (∀ (i : Nat) f, fs[i]? = some f → DataW.trod enc P w 0 (fun _ => true) true n f.type ((cs.drop f.offset).take (P.cellsOf f.type)) = xs[i]?) → (∀ (i : Nat) f x, fs[i]? = some f → xs[i]? = some x → Small P f.type x.1) →
    ∀ len, cs.length = len → len = o + (fs.map fun f => P.cellsOf f.type).sum → ∃ a : α, ok a ∧ uT (xC w) w (c a) (cs.drop o)

theorem CL {o : Nat} {α : Type} (a : α) : IF enc P w [] o (fun _ : α => []) (fun _ => True) := by
  intro n xs cs _ _ _ len hl hs
  refine ⟨a, trivial, ?_, by simp⟩
  simp at hs ⊢; omega

theorem mK {f : Field} {fs : List Field} {o : Nat} {α β γ : Type} {e : α → V} {ok : α → Prop} {c : β → List V} {okc : β → Prop} (mk : α → β → γ) {c' : γ → List V} {ok' : γ → Prop} (ho : f.offset = o) (hf : uS enc P w f.type e ok) (hfs : IF enc P w fs (o + P.cellsOf f.type) c okc)
    (hc : ∀ a b, c' (mk a b) = (e a).cells ++ c b) (hk : ∀ a b, ok a → okc b → ok' (mk a b)) : IF enc P w (f :: fs) o c' ok' := by
  intro n xs cs hx hall hsm len hl hs
  have h0 := hall 0 f rfl
  cases xs with
  | nil => simp at hx
  | cons x xs =>
    simp only [List.getElem?_cons_zero] at h0
    obtain ⟨a, ha, hra⟩ := hf n _ x h0 (hsm 0 f x rfl rfl)
    obtain ⟨b, hb, hrb⟩ := hfs n xs cs (by simpa using hx) (fun i g hg => by simpa using hall (i + 1) g (by simpa using hg)) (fun i g y hg hy => hsm (i + 1) g y (by simpa using hg) (by simpa using hy)) len hl (by simp at hs ⊢; omega)
    refine ⟨mk a b, hk a b ha hb, ?_⟩
    rw [hc]
    have : cs.drop o = (cs.drop f.offset).take (P.cellsOf f.type) ++ cs.drop (o + P.cellsOf f.type) := by
      rw [ho, ← List.drop_drop, List.take_append_drop]
    rw [this]
    exact hra.append hrb

theorem zF {t : TypeId} {fs : Array Field} {α : Type} {c : α → List V} {ok : α → Prop} (ht : P.underlying t = some (.struct fs)) (hs : P.cellsOf t = (fs.toList.map fun f => P.cellsOf f.type).sum) (h : IF enc P w fs.toList 0 c ok) : uS enc P w t (fun a => .agg (c a)) ok := by
  intro fuel cs x hx hsm
  obtain ⟨xs, n, rfl, rfl, hl, hlen, hall⟩ := DataW.trod_struct ht hx
  obtain ⟨a, ha, hr⟩ := h n xs cs (by simpa using hlen) (fun i f hf => hall i f (by simpa using hf)) (fun i f x hf hx' => by
    refine List.all_eq_true.2 fun m hm => ?_
    refine List.all_eq_true.1 hsm m ?_
    simp only [DataW.weights, ht]
    exact DataW.weights_mem_each (j := i) (t := f.type) (d := x.1) (by simp only [List.getElem?_map, hf, Option.map_some]) (by simp only [List.getElem?_map, hx', Option.map_some]) m hm) _ hl (by omega)
  exact ⟨a, ha, by simpa [V.cells] using hr⟩

theorem OQ {α β : Type} {f : α → Option β} : ∀ {l : List α} {r : List β}, l.mapM f = some r → r.length = l.length ∧ ∀ (i : Nat) x, l[i]? = some x → f x = r[i]?
  | [], r, h => by simp at h; subst h; simp
  | a :: l, r, h => by
    rw [List.mapM_cons] at h
    simp only [bind, Option.bind_eq_some_iff, pure, Option.some.injEq] at h
    obtain ⟨b, hb, r', hr, rfl⟩ := h
    obtain ⟨h1, h2⟩ := OQ hr
    refine ⟨by simp [h1], fun i x hx => ?_⟩
    cases i with
    | zero => simp at hx; subst hx; simpa using hb
    | succ i => simp at hx; simpa using h2 i x hx

theorem WG {a : Addr} {n : Nat} {cs : List Value} (h : w.cells? 0 a n = some cs) : cs.length = n ∧ ∀ j, j < n → w.cell? (a.add j) = cs[j]? := by
  unfold World.cells? at h
  simp only [Nat.zero_le, if_true] at h
  obtain ⟨h1, h2⟩ := OQ h
  exact ⟨by simpa using h1, fun j hj => h2 j j (by simp [hj])⟩

theorem NI {a : Addr} (h : a.spot = none) (n : Nat) : a.add n = ⟨a.block, a.off + n, none⟩ := by
  unfold Addr.add
  split
  · rename_i h0; subst h0; cases a; simp_all
  · rfl

theorem VH {a : Addr} {v : Value} (h : w.cell? a = some v) : a.spot = none := by
  unfold World.cell? at h
  split at h
  · split at h
    · cases h
    · rename_i hs; simpa using hs
  · cases h

theorem zN {e : TypeId} : ∀ {ds : List (DataW H)} {d : DataW H}, d ∈ ds → ∀ n ∈ d.weights P e, n ∈ DataW.weightsAll P e ds
  | [], _, h => by cases h
  | a :: r, d, h => fun n hn => by
    simp only [DataW.weightsAll, List.mem_append]
    rcases List.mem_cons.1 h with rfl | h
    · exact .inl hn
    · exact .inr (zN h n hn)

theorem HF {t e : TypeId} {α : Type} [Inhabited α] {en : α → V} {ok : α → Prop} {fuel : Nat} {cs : List Value} {x : DataW H × List MemPlace} (ht : P.underlying t = some (.slice e)) (hk : 0 < P.cellsOf e) (hc : ∀ a, (en a).cells.length = P.cellsOf e) (hn : ∀ a, dS (en a) = true)
    (he : uS enc P w e en ok) (h : DataW.trod enc P w 0 (fun _ => true) true fuel t cs = some x) (hsm : Small P t x.1) :
    ∃ l : List α, (∀ a ∈ l, ok a) ∧ uT (xC w) w [eL en l] cs ∧ l.length * P.bytesOf e ≤ reachBytes ∧ (l = [] ∨ ∃ es sp, x.1 = .slice es sp ∧ es.length = l.length) := by
  rcases DataW.trod_slice ht h with ⟨rfl, rfl⟩ | ⟨a, len, cap, elems, rest, n, _, rfl, rfl, _, hlc, hm, hlen, hel, _, _⟩
  · exact ⟨[], by simp, .one (.sl0 _ _ _ _ (by simp)) rfl, by simp, .inl rfl⟩
  · -- the elements
    have each : ∀ i, i < len → ∃ b : α, ok b ∧ ∃ c : Value, Rep (xC w) w (en b) c ∧ c.cells.size = P.cellsOf e ∧ ∀ j, j < P.cellsOf e → w.cell? ((a.add (i * P.cellsOf e)).add j) = c.cells[j]? := by
      intro i hi
      have h1 := hel i hi
      rw [List.getElem?_eq_getElem (by omega)] at h1
      simp only [Option.bind_eq_some_iff] at h1
      obtain ⟨ds, hds, htr⟩ := h1
      obtain ⟨b, hb, hr⟩ := he n ds _ htr (by
        refine List.all_eq_true.2 fun m hm => ?_
        refine List.all_eq_true.1 hsm m ?_
        simp only [DataW.weights, ht, List.mem_cons, List.mem_append]
        exact .inr (.inl (zN (List.mem_map.2 ⟨_, List.getElem_mem (by omega), rfl⟩) m hm)))
      obtain ⟨c, hcc, hrep⟩ := hr.val (hn b)
      obtain ⟨l1, l2⟩ := WG hds
      refine ⟨b, hb, c, hrep, by rw [← Array.length_toList, hcc, l1], fun j hj => ?_⟩
      rw [l2 j hj, ← hcc]; simp
    have hspot : 0 < len → a.spot = none := by
      intro h0
      obtain ⟨b, _, c, _, hs, hcell⟩ := each 0 h0
      have h1 := hcell 0 hk
      simp only [Nat.zero_mul] at h1
      rw [Array.getElem?_eq_getElem (by omega)] at h1
      have : (a.add 0).add 0 = a := by simp [Addr.add]
      rw [this] at h1
      exact VH h1
    let f : Nat → α := fun i => if h : i < len then Classical.choose (each i h) else default
    have hf : ∀ i (h : i < len), f i = Classical.choose (each i h) := fun i h => dif_pos h
    have hsz : len * P.bytesOf e ≤ reachBytes := by
      have := List.all_eq_true.1 hsm (((elems.map (·.1)).length + (rest.map (·.1)).length) * P.bytesOf e) (by simp [DataW.weights, ht])
      refine Nat.le_trans (Nat.mul_le_mul_right _ ?_) (of_decide_eq_true this)
      simp; omega
    refine ⟨(List.range len).map f, ?_, ?_, by simpa using hsz, .inr ⟨_, _, rfl, by simp [hlen]⟩⟩
    · intro b hb
      obtain ⟨i, hi, rfl⟩ := List.mem_map.1 hb
      have hi : i < len := List.mem_range.1 hi
      rw [hf i hi]
      exact (Classical.choose_spec (each i hi)).1
    · refine .one ?_ rfl
      by_cases h0 : 0 < len
      · have hs := hspot h0
        let c : Nat → Value := fun i => if h : i < len then Classical.choose (Classical.choose_spec (each i h)).2 else default
        have hcc : ∀ i (h : i < len), c i = Classical.choose (Classical.choose_spec (each i h)).2 := fun i h => dif_pos h
        have spec : ∀ i, i < len → Rep (xC w) w (en (f i)) (c i) ∧ (c i).cells.size = P.cellsOf e ∧ ∀ j, j < P.cellsOf e → w.cell? ((a.add (i * P.cellsOf e)).add j) = (c i).cells[j]? := by
          intro i hi
          rw [hf i hi, hcc i hi]
          exact Classical.choose_spec (Classical.choose_spec (each i hi)).2
        have addr : ∀ i j, (a.add (i * P.cellsOf e)).add j = ⟨a.block, a.off + i * P.cellsOf e + j, none⟩ := by
          intro i j
          rw [NI hs, NI rfl]
        have hl : ((List.range len).map f).length = len := by simp
        have hgd : ∀ i, i < len → ((List.range len).map f).getD i default = f i := by
          intro i hi
          simp [List.getD_eq_getElem?_getD, hi]
        unfold eL
        rw [hl]
        have ha : a = ⟨a.block, a.off, none⟩ := by cases a; simp_all
        rw [ha]
        refine .sl len _ a.block a.off (P.cellsOf e) cap c (fun i hi => by rw [hgd i hi]; exact (spec i hi).1) (fun i hi => (spec i hi).2.1) (fun i hi j x hx => ?_) (fun i hi j hj => ?_) hlc (fun i _ => hn _)
        · have hj : j < P.cellsOf e := by rw [← (spec i hi).2.1]; exact (Array.getElem?_eq_some_iff.1 hx).1
          have := (spec i hi).2.2 j hj
          rw [addr] at this
          rw [this, hx]
        · have := (spec i hi).2.2 j hj
          rw [addr] at this
          show (w.cell? _).isSome = true
          rw [this, Array.getElem?_eq_getElem (by rw [(spec i hi).2.1]; exact hj)]
          rfl
      · have h00 : len = 0 := by omega
        subst h00
        exact .sl0 _ _ _ _ (by simp)

theorem FZ {t e : TypeId} {α : Type} [Inhabited α] {en : α → V} {ok : α → Prop} (ht : P.underlying t = some (.slice e)) (hk : 0 < P.cellsOf e) (hc : ∀ a, (en a).cells.length = P.cellsOf e) (hn : ∀ a, dS (en a) = true) (he : uS enc P w e en ok) {by' : Nat} (hby : P.bytesOf e = by') :
    uS enc P w t (eL en) (fun l => (∀ a ∈ l, ok a) ∧ l.length * by' ≤ 140737488351232) := fun _ _ _ h hs =>
  let ⟨l, h1, h2, h3, _⟩ := HF ht hk hc hn he h hs
  ⟨l, ⟨h1, hby ▸ h3⟩, h2⟩

theorem OR {g : Gh} {y : V} {v : Value} (hy : y.cells = [y]) (hv : one v = true) (h : uT g w y.cells v.cells.toList) : Rep g w y v := by
  rw [hy, pG hv] at h
  exact (h.2 0 y v rfl rfl).1

theorem TH {t e : TypeId} {α : Type} [Inhabited α] {en : α → V} {ok : α → Prop} {d : DataW H} {ps : List MemPlace} {a : Option Addr} {len cap : Nat} (ht : P.underlying t = some (.slice e)) (hk : 0 < P.cellsOf e) (hc : ∀ a, (en a).cells.length = P.cellsOf e) (hn : ∀ a, dS (en a) = true)
    (he : uS enc P w e en ok) (h : DataW.Trod enc P w 0 (fun _ => true) true t (.slice a len cap) d ps) (hsm : Small P t d) :
    ∃ l : List α, (∀ a ∈ l, ok a) ∧ Rep (xC w) w (eL en l) (.slice a len cap) ∧ l.length * P.bytesOf e ≤ reachBytes ∧ (l = [] ∨ ∃ es sp, d = .slice es sp ∧ es.length = l.length) := by
  obtain ⟨fuel, hf⟩ := h
  obtain ⟨l, h1, h2, h3, h4⟩ := HF ht hk hc hn he hf hsm
  exact ⟨l, h1, OR rfl rfl h2, h3, h4⟩

theorem WT {ts : List TypeId} {ds : List (DataW H)} (hz : (DataW.weightsEach P ts ds).all (· ≤ reachBytes) = true) {j : Nat} {t : TypeId} {d : DataW H} (ht : ts[j]? = some t) (hd : ds[j]? = some d) : Small P t d :=
  List.all_eq_true.2 fun m hm => List.all_eq_true.1 hz m (DataW.weights_mem_each ht hd m hm)

theorem WJ {ts : List TypeId} {ds : List (DataW H)} (hz : (DataW.weightsEach P ts ds).all (· ≤ reachBytes) = true) {j : Nat} {t e : TypeId} {d : DataW H} {α : Type} {l : List α} (ht : ts[j]? = some t) (hd : ds[j]? = some d) (hu : P.underlying t = some (.slice e)) (h : l = [] ∨ ∃ es sp, d = .slice es sp ∧ es.length = l.length) :
    l.length * P.bytesOf e ≤ reachBytes := by
  rcases h with rfl | ⟨es, sp, rfl, hl⟩
  · simp
  · have := sized_slice hz ht hd hu
    rw [← hl]
    exact Nat.le_trans (Nat.mul_le_mul_right _ (Nat.le_add_right _ _)) this

theorem Ext.below {g : Gh} {w' : World} {g' : Gh} (h : Ext g w g' w') (h0 : g.n = 0) : Below w.heap.size w w' :=
  ⟨h.os, h.tape, h.output, h.size, fun k hk => h.keep k hk (fun l hl => by omega)⟩

theorem UM {f : FuncId} {args : List V} {vs : Array Value} {b : Value} (h : cF P f args (.lit b)) (hl : args.length = vs.size) (hr : ∀ (i : Nat) x y, args[i]? = some x → vs[i]? = some y → Rep (xC w) w x y) :
    Calls P f vs w fun e w' => e = .returned b ∧ Below w.heap.size w w' := by
  refine ((h []).2 (xC w) w vs (VX w) hl hr).mono ?_
  rintro e w' ⟨v, r, g', H', rfl, hrep, _, hx, rfl, _⟩
  cases hrep
  exact ⟨rfl, hx.below rfl⟩

def DQ (g : Gh) (w : World) : List V → List Value → Prop
  | [], [] => True
  | x :: xs, y :: ys => Rep g w x y ∧ DQ g w xs ys
  | _, _ => False

theorem DQ.get {g : Gh} : ∀ {xs : List V} {ys : List Value}, DQ g w xs ys → xs.length = ys.length ∧ ∀ (i : Nat) x y, xs[i]? = some x → ys[i]? = some y → Rep g w x y
  | [], [], _ => by simp
  | x :: xs, y :: ys, h => by
    obtain ⟨h1, h2⟩ := DQ.get h.2
    refine ⟨by simp [h1], fun i a b ha hb => ?_⟩
    cases i with
    | zero => simp at ha hb; subst ha; subst hb; exact h.1
    | succ i => simp at ha hb; exact h2 i a b ha hb
  | [], _ :: _, h => h.elim
  | _ :: _, [], h => h.elim

theorem ZM {f : FuncId} {args : List V} {vs : List Value} {b : Value} (h : cF P f args (.lit b)) (hr : DQ (xC w) w args vs) : Calls P f vs.toArray w fun e w' => e = .returned b ∧ Below w.heap.size w w' := by
  obtain ⟨h1, h2⟩ := hr.get
  exact UM h (by simpa using h1) (fun i x y hx hy => h2 i x y hx (by simpa using hy))

def sJ (n : Int) : Prop := -9223372036854775808 ≤ n ∧ n ≤ 9223372036854775807

theorem ZG {n : Int} (h : (Lit.int .i64 n).wf = true) : sJ n := by
  simp [Lit.wf, IntKind.min, IntKind.max, IntKind.signed, IntKind.bits] at h
  unfold sJ
  omega

theorem tF {t : TypeId} (ht : P.underlying t = some (.int .i64)) : uS enc P w t (pH .i64) sJ := fun fuel cs x h hs =>
  let ⟨a, h1, h2⟩ := TC ht fuel cs x h hs
  ⟨a, ZG h1, h2⟩

end Go.Abs
namespace Go.Abs
open Go Go.RowKit
variable {P : Program} {tt : TT} {g : Gh} {w : World} {H : aR}
theorem TR.CM {g' : Gh} {w' : World} {T : Env} {tmps : Array Value} (h : TR g w T tmps) (e : Ext0 g w g' w') : TR g' w' T tmps :=
  fun t c x ht => ⟨fun hc => let ⟨v, hv, hr⟩ := (h t c x ht).1 hc; ⟨v, hv, hr.ext e⟩, (h t c x ht).2⟩

def AL : Sp where
  p _ _ _ o := o = .deferred (some [])
  st _ h := h

structure BO where
  N : Nat
  T : List (Nat × V)
  ps : Array Tmp
  asg : Code
  body : Code

def mQ (b : Nat) (A : BO) (st : LoopState) (pe : Option Code) : Sp where
  p g w b' o := b' = b ∧ ∃ r : Loop, o = .loop r ∧ r.state = st ∧ r.pending = pe ∧ r.params = A.ps ∧ r.assign = A.asg ∧ r.body = A.body ∧ r.tmps.size = A.N ∧ TR g w (Env.ofL A.T) r.tmps
  st e h := by
    obtain ⟨h0, r, h1, h2, h3, h4, h5, h6, h7, h8⟩ := h
    exact ⟨h0, r, h1, h2, h3, h4, h5, h6, h7, h8.CM e⟩

theorem SR.YK (h : SR g w H) {b : Nat} {o : Obj} (s : Sp) (hb : w.heap[b]? = some o) (ho : o.isCells = false) (hs : s.p (g.more b 0 0 0) w b o) (hd : ∀ l s', H[l]? = some (.raw s') → g.blk l ≠ b) : SR (g.more b 0 0 0) w (H ++ [.raw s]) := by
  have e : Ext0 g w (g.more b 0 0 0) w := KN
  have hat : ∀ l ob, (H ++ [.raw s])[l]? = some ob → (l < g.n ∧ H[l]? = some ob) ∨ (l = g.n ∧ ob = .raw s) := by
    intro l ob hl
    rw [List.getElem?_append] at hl
    split at hl
    · rename_i hlt; exact .inl ⟨by rw [← h.len]; exact hlt, hl⟩
    · have hlen := h.len
      have h0 : l - H.length = 0 := by
        have := (List.getElem?_eq_some_iff.1 hl).1
        simp at this; omega
      rw [h0] at hl
      simp at hl
      exact .inr ⟨by omega, hl.symm⟩
  refine { len := by simp [Gh.more, h.len], fxc := h.fxc, nt := ?_, kk := ?_, vec := ?_, raw := ?_, disj := ?_, rawd := ?_ }
  · intro l k' es hl
    rcases hat l _ hl with ⟨_, hl'⟩ | ⟨_, he⟩
    · exact h.nt l k' es hl'
    · cases he
  · intro l k' es hl
    rcases hat l _ hl with ⟨hlt, hl'⟩ | ⟨_, he⟩
    · rw [e.k l hlt]; exact h.kk l k' es hl'
    · cases he
  · intro l k' es hl
    rcases hat l _ hl with ⟨hlt, hl'⟩ | ⟨_, he⟩
    · obtain ⟨h1, ⟨c', hc'⟩, h3⟩ := h.vec l k' es hl'
      have e1 := e.blk l hlt; have e2 := e.off l hlt; have e3 := e.k l hlt; have e4 := e.cap l hlt
      rw [e1, e2, e3, e4]
      exact ⟨h1, ⟨c', fun i x hx => ⟨(hc' i x hx).1.ext e, (hc' i x hx).2⟩⟩, h3⟩
    · cases he
  · intro l s' hl
    rcases hat l _ hl with ⟨hlt, hl'⟩ | ⟨rfl, he⟩
    · rw [e.blk l hlt]
      obtain ⟨o, h1, h2, h3⟩ := h.raw l s' hl'
      exact ⟨o, h1, h2, s'.st e h3⟩
    · cases he
      simp only [Gh.more, cU]
      exact ⟨o, hb, ho, hs⟩
  · intro l l' k1 k2 es es' hl hl' hne j j' hj hj'
    rcases hat l _ hl with ⟨hlt, hl1⟩ | ⟨_, he⟩
    · rcases hat l' _ hl' with ⟨hlt', hl1'⟩ | ⟨_, he'⟩
      · rw [e.blk l hlt, e.off l hlt, e.blk l' hlt', e.off l' hlt']
        rw [e.k l hlt, e.cap l hlt] at hj
        rw [e.k l' hlt', e.cap l' hlt'] at hj'
        exact h.disj l l' k1 k2 es es' hl1 hl1' hne j j' hj hj'
      · cases he'
    · cases he
  · intro l l' o1 o2 hl hl' hne
    rcases hat l _ hl with ⟨hlt, hl1⟩ | ⟨he0, he⟩ <;> rcases hat l' _ hl' with ⟨hlt', hl1'⟩ | ⟨he0', he'⟩
    · rw [e.blk l hlt, e.blk l' hlt']; exact h.rawd l l' o1 o2 hl1 hl1' hne
    · subst he0'
      rw [e.blk l hlt]; simp only [Gh.more, cU]; exact hd l o1 hl1
    · subst he0
      rw [e.blk l' hlt']; simp only [Gh.more, cU]; exact (hd l' o2 hl1').symm
    · exact absurd (he0.trans he0'.symm) hne

theorem SR.OE (h : SR g w H) (o : Obj) (ho : o.isCells = false) (s : Sp) (hs : s.p (g.more w.heap.size 0 0 0) (w.alloc o) w.heap.size o) :
    SR (g.more w.heap.size 0 0 0) (w.alloc o) (H ++ [.raw s]) ∧ Ext g w (g.more w.heap.size 0 0 0) (w.alloc o) := by
  obtain ⟨h1, e1⟩ := h.alloc o
  refine ⟨h1.YK s (World.alloc_heap_new w o) ho hs (fun l s' hl => ?_), e1.more (.inl (Nat.le_refl _))⟩
  have := h.TE hl
  omega

theorem cell?_putObj {b : Nat} {o : Obj} {a : Addr} (h : a.1 ≠ b) : (w.putObj b o).cell? a = w.cell? a := by
  unfold World.cell?
  rw [World.putObj_heap_other h]

theorem frozen?_putObj {b : Nat} {o : Obj} {a : Addr} (h : a.1 ≠ b) : (w.putObj b o).frozen? a = w.frozen? a := by
  unfold World.frozen?
  rw [World.putObj_heap_other h]

theorem cell?_none_of_raw {b o : Nat} {ob : Obj} (h : w.heap[b]? = some ob) (hc : ob.isCells = false) : w.cell? ⟨b, o, none⟩ = none := by
  unfold World.cell?
  rw [h]
  cases ob <;> simp_all [Obj.isCells]

theorem SR.AU (h : SR g w H) {l : Nat} {s : Sp} (hl : H[l]? = some (.raw s)) (o' : Obj) (ho' : o'.isCells = false) (s' : Sp) (hs' : s'.p g (w.putObj (g.blk l) o') (g.blk l) o') :
    SR g (w.putObj (g.blk l) o') (H.set l (.raw s')) ∧ Ext g w g (w.putObj (g.blk l) o') := by
  obtain ⟨o, hb, ho, _⟩ := h.raw l s hl
  have hlt : l < H.length := (List.getElem?_eq_some_iff.1 hl).1
  have hln : l < g.n := by rw [← h.len]; exact hlt
  have e : Ext g w g (w.putObj (g.blk l) o') :=
    { fx := fun _ _ h => h, cell := fun b' o1 hf => cell?_putObj (by
        intro he
        have h1 := h.fxc b' o1 hf
        have he' : b' = g.blk l := he
        rw [he', cell?_none_of_raw hb ho] at h1; cases h1),
      n := Nat.le_refl _, blk := fun _ _ => rfl, off := fun _ _ => rfl, k := fun _ _ => rfl, cap := fun _ _ => rfl,
      size := by simp, os := rfl, tape := rfl, output := rfl, keep := fun b' _ hb' => World.putObj_heap_other (fun he => hb' l hln he.symm), newblk := fun l h1 h2 => absurd h2 (by omega) }
  refine ⟨?_, e⟩
  have hat : ∀ l' ob, (H.set l (.raw s'))[l']? = some ob → (l' = l ∧ ob = .raw s') ∨ (l' ≠ l ∧ H[l']? = some ob) := by
    intro l' ob hl'
    rw [List.getElem?_set] at hl'
    split at hl'
    · rename_i heq
      simp [heq ▸ hlt] at hl'
      exact .inl ⟨heq.symm, hl'.symm⟩
    · rename_i hne; exact .inr ⟨fun e => hne e.symm, hl'⟩
  have hat0 : ∀ (l' : Nat) (ob : cQ), (H.set l cQ.dead)[l']? = some ob → ob ≠ cQ.dead → l' ≠ l ∧ H[l']? = some ob := by
    intro l' ob hl' hne
    by_cases heq : l' = l
    · subst heq; rw [List.getElem?_set] at hl'; simp [hlt] at hl'; exact absurd hl'.symm hne
    · exact ⟨heq, by rwa [List.getElem?_set_ne (Ne.symm heq)] at hl'⟩
  have hm : SR g (w.putObj (g.blk l) o') (H.set l .dead) := (h.kill l).move e (fun l' k1 es1 hl1 j hj => by
    obtain ⟨_, hl2⟩ := hat0 l' _ hl1 (by simp)
    have hne : g.blk l' ≠ g.blk l := by
      intro he
      have h1 := ((h.vec l' k1 es1 hl2).2.2 j hj).1
      rw [he, cell?_none_of_raw hb ho] at h1; cases h1
    exact ⟨cell?_putObj hne, frozen?_putObj hne⟩) (fun l' s1 hl1 => by
    obtain ⟨hne, hl2⟩ := hat0 l' _ hl1 (by simp)
    exact World.putObj_heap_other (h.rawd l' l s1 s hl2 hl hne))
  have back : ∀ l' ob, l' ≠ l → H[l']? = some ob → (H.set l cQ.dead)[l']? = some ob := fun l' ob hne hl' => by rw [List.getElem?_set_ne (Ne.symm hne)]; exact hl'
  refine { len := by simp [h.len], fxc := hm.fxc, nt := ?_, kk := ?_, vec := ?_, raw := ?_, disj := ?_, rawd := ?_ }
  · intro l' k1 es1 hl1
    rcases hat _ _ hl1 with ⟨_, he⟩ | ⟨_, hl2⟩
    · cases he
    · exact h.nt l' k1 es1 hl2
  · intro l' k1 es1 hl1
    rcases hat _ _ hl1 with ⟨_, he⟩ | ⟨_, hl2⟩
    · cases he
    · exact h.kk l' k1 es1 hl2
  · intro l' k1 es1 hl1
    rcases hat _ _ hl1 with ⟨_, he⟩ | ⟨hne, hl2⟩
    · cases he
    · exact hm.vec l' k1 es1 (back _ _ hne hl2)
  · intro l' s1 hl1
    rcases hat _ _ hl1 with ⟨rfl, he⟩ | ⟨hne, hl2⟩
    · cases he
      exact ⟨o', World.putObj_heap_same (Array.getElem?_eq_some_iff.1 hb).1, ho', hs'⟩
    · exact hm.raw l' s1 (back _ _ hne hl2)
  · intro a b k1 k2 es1 es2 ha hb2 hne
    rcases hat _ _ ha with ⟨_, he⟩ | ⟨_, ha2⟩
    · cases he
    · rcases hat _ _ hb2 with ⟨_, he⟩ | ⟨_, hb3⟩
      · cases he
      · exact h.disj _ _ _ _ _ _ ha2 hb3 hne
  · intro a b s1 s2 ha hb2 hne
    rcases hat _ _ ha with ⟨rfl, _⟩ | ⟨_, ha2⟩ <;> rcases hat _ _ hb2 with ⟨rfl, _⟩ | ⟨_, hb3⟩
    · exact absurd rfl hne
    · exact h.rawd _ _ _ _ hl hb3 hne
    · exact h.rawd _ _ _ _ ha2 hl hne
    · exact h.rawd _ _ _ _ ha2 hb3 hne

def aAy (b lL : Nat) (A : BO) (Q : V → aR → Prop) : Exit → Env → aR → List Nat → Prop
  | .normal, _, H, _ => H[lL]? = some (.raw (mQ b A .busy none)) ∧ Q (aK true) (H.set lL (.raw (mQ b A .ready none)))
  | .ret, _, H, _ => H[lL]? = some (.raw (mQ b A .busy none)) ∧ Q (aK false) (H.set lL (.raw (mQ b A .done (some .ret))))
  | .exit id, _, H, _ => H[lL]? = some (.raw (mQ b A .busy none)) ∧ Q (aK false) (H.set lL (.raw (mQ b A .done (some (.exit id)))))
  | _, _, _, _ => False

def HQ : List Tmp → List V → List (Nat × V) → List (Nat × V)
  | t :: ts, x :: xs, T => HQ ts xs ((t, x) :: T)
  | _, _, T => T

theorem ZK {T : List (Nat × V)} {tmps : Array Value} (h : TR g w (Env.ofL T) tmps) {t : Nat} {x : V} {v : Value} (ht : t < tmps.size) (hr : Rep g w x v) : TR g w (Env.ofL ((t, x) :: T)) (tmps.setIfInBounds t v) := by
  intro t' c y hy
  have hc0 : c = [] := by
    simp only [Env.ofL] at hy
    split at hy
    · simp at hy; exact hy.1
    · clear h
      induction T with
      | nil => simp [Env.ofL] at hy
      | cons p r ih =>
        simp only [Env.ofL] at hy
        split at hy
        · simp at hy; exact hy.1
        · exact ih hy
  subst hc0
  have hok : ∀ a : Array Value, cC a [] := fun a p hp => by simp at hp
  refine ⟨fun _ => ?_, fun hn => absurd (hok _) hn⟩
  simp only [Env.ofL] at hy
  split at hy
  · rename_i hb
    have : t' = t := Nat.eq_of_beq_eq_true hb
    subst this
    simp at hy; subst hy
    exact ⟨v, by simp [ht], hr⟩
  · rename_i hb
    have hne : t' ≠ t := fun he => by subst he; simp at hb
    obtain ⟨v', hv', hr'⟩ := (h t' [] y hy).1 (hok _)
    exact ⟨v', by rw [Array.getElem?_setIfInBounds_ne (Ne.symm hne)]; exact hv', hr'⟩

theorem OG : ∀ (ts : List Tmp) (xs : List V) (vs : List Value) (T : List (Nat × V)) (tmps : Array Value), TR g w (Env.ofL T) tmps → (∀ t ∈ ts, t < tmps.size) → xs.length = vs.length → ts.length = xs.length →
    (∀ (i : Nat) x y, xs[i]? = some x → vs[i]? = some y → Rep g w x y) →
    TR g w (Env.ofL (HQ ts xs T)) ((ts.zip vs).foldl (fun tmps (p : Tmp × Value) => tmps.setIfInBounds p.1 p.2) tmps) ∧ ((ts.zip vs).foldl (fun tmps (p : Tmp × Value) => tmps.setIfInBounds p.1 p.2) tmps).size = tmps.size
  | [], xs, vs, T, tmps, h, _, _, hl, _ => by
    have : xs = [] := List.length_eq_zero_iff.1 (by simpa using hl.symm)
    subst this
    exact ⟨by simpa [HQ] using h, by simp⟩
  | t :: ts, [], vs, T, tmps, _, _, _, hl, _ => by simp at hl
  | t :: ts, x :: xs, [], T, tmps, _, _, hl, _, _ => by simp at hl
  | t :: ts, x :: xs, v :: vs, T, tmps, h, hb, hl, hl2, hr => by
    have h1 := ZK h (hb t (by simp)) (hr 0 x v rfl rfl)
    have := OG ts xs vs ((t, x) :: T) (tmps.setIfInBounds t v) h1 (fun t' ht' => by simpa using hb t' (by simp [ht'])) (by simpa using hl) (by simpa using hl2) (fun i x' y' hx hy => hr (i + 1) x' y' (by simpa using hx) (by simpa using hy))
    simpa [HQ] using this

def aAZ (P : Program) (b lL : Nat) (A : BO) (Q : V → aR → Prop) : Exit → Env → aR → List Nat → Prop :=
  fun e T H ds => e = .normal ∧ ds = [] ∧ H[lL]? = some (.raw (mQ b A .ready none)) ∧ ∀ o1, o1 = cQ.raw (mQ b A .busy none) → AWP P (some b) A.N A.body T (H.set lL o1) [] (aAy b lL A Q)

theorem ND {b lL : Nat} {A : BO} {args : List V} {Q : V → aR → Prop} (hl : H[lL]? = some (.raw (mQ b A .ready none))) (hn : args.length = A.ps.size) (hps : A.ps.toList.all (fun t => Nat.blt t A.N) = true)
    (h : AWP P (some b) A.N A.asg (Env.ofL (HQ A.ps.toList args A.T)) H [] (aAZ P b lL A Q)) : BE P b args H Q := by
  intro g w vs hs hlen hrep
  obtain ⟨o, ho1, ho2, hbb, r, rfl, hst, hpe, hpa, has, hbo, hsz, htr⟩ := hs.raw lL _ hl
  rw [hbb] at ho1
  have hsize : vs.size = r.params.size := by rw [hpa, ← hn, hlen]
  refine ⟨r.fn, _, r.assign, r.body, run_yield ho1 hsize, ?_⟩
  refine roundIn_of_wpIn (F := FR none) trivial ?_
  rw [has]
  have hfold : ((r.params.zip vs).foldl (fun tmps (t, a) => tmps.setIfInBounds t a) r.tmps) = ((A.ps.toList.zip vs.toList).foldl (fun tmps (p : Tmp × Value) => tmps.setIfInBounds p.1 p.2) r.tmps) := by
    rw [← Array.foldl_toList, Array.toList_zip, hpa]
  rw [hfold]
  obtain ⟨t1, t2⟩ := OG A.ps.toList args vs.toList A.T r.tmps htr (fun t ht => by
    have := List.all_eq_true.1 hps t ht
    rw [hsz]; simpa using this) (by simpa using hlen) (by simpa using hn.symm) (fun i x y hx hy => hrep i x y hx (by simpa using hy))
  refine h g _ _ _ ⟨hs, t1, rfl, by simp, by rw [← hsz]; exact t2⟩ ?_
  rintro e T1 H1 ds1 g1 w1 a1 ⟨rfl, rfl, hl1, hbody⟩ hg1 hx1
  obtain ⟨o1, ho1', ho2', hbb1, r1, rfl, hst1, hpe1, hpa1, has1, hbo1, hsz1, htr1⟩ := hg1.sr.raw lL _ hl1
  rw [hbb1] at ho1'
  have hbe : (Instr.beginRound b).run P w1 = .ok () (w1.putObj b (.loop { r1 with state := .busy })) := run_beginRound ho1' hst1
  have hset := hg1.sr.AU hl1 (.loop { r1 with state := .busy }) rfl (mQ b A .busy none) (by
    refine ⟨hbb1, _, rfl, rfl, hpe1, hpa1, has1, hbo1, hsz1, htr1.CM ?_⟩
    exact (hg1.sr.AU hl1 (.loop { r1 with state := .busy }) rfl ⟨fun _ _ _ _ => True, fun _ _ => trivial⟩ trivial).2.toExt0)
  rw [hbb1] at hset
  refine ⟨_, hbe, ?_⟩
  have h := hbody _ rfl
  rw [← hbo] at h
  refine h g1 _ _ _ ⟨hset.1, hg1.tr.CM hset.2.toExt0, hg1.df, by simp, hg1.sz⟩ ?_
  intro e T' H' ds' g' w' a' hq hg hx
  have fin : ∀ (jump : Option Code) (st : LoopState), st = (if jump.isNone then .ready else .done) → H'[lL]? = some (.raw (mQ b A .busy none)) → Q (aK jump.isNone) (H'.set lL (.raw (mQ b A st jump))) →
      ∃ v w2, (Instr.endRound b jump).run P w' = .ok v w2 ∧ ∃ v2 r2 g2 H2, Ending.returned v = Ending.returned v2 ∧ Rep g2 w2 r2 v2 ∧ SR g2 w2 H2 ∧ Ext g w g2 w2 ∧ Q r2 H2 := by
    intro jump st hst hl2 hq2
    obtain ⟨o2, q1, q2, qb, r2, rfl, z1, z2, z3, z4, z5, z6, z7⟩ := hg.sr.raw lL _ hl2
    rw [qb] at q1
    have s2 := hg.sr.AU hl2 (.loop { r2 with state := if jump.isNone then .ready else .done, pending := jump }) rfl (mQ b A st jump) (by
      refine ⟨qb, _, rfl, hst.symm, rfl, z3, z4, z5, z6, z7.CM ?_⟩
      exact (hg.sr.AU hl2 (.loop { r2 with state := if jump.isNone then .ready else .done, pending := jump }) rfl ⟨fun _ _ _ _ => True, fun _ _ => trivial⟩ trivial).2.toExt0)
    rw [qb] at s2
    exact ⟨_, _, run_endRound jump q1, _, aK jump.isNone, g', _, rfl, .lit _ rfl, s2.1, ((hx1.trans hset.2).trans hx).trans s2.2, hq2⟩
  cases e with
  | normal => exact fin none .ready rfl hq.1 hq.2
  | ret => exact fin (some .ret) .done rfl hq.1 hq.2
  | exit id => exact fin (some (.exit id)) .done rfl hq.1 hq.2
  | _ => exact hq.elim

def yv (b : Nat) : V := .lit (.func (.yield b) #[] #[])

theorem YH {N : Nat} {c : Code} {l : List (Nat × V)} {ds : List Nat} {Q : Exit → Env → aR → List Nat → Prop} {fid : Nat} {ys cs : List V} (hk : c.kind = 9) (hf : bY (Env.ofL l) [] c.cnd = some (.fn (.func fid) ys cs)) {ps : Array Tmp} (hps : c.rps = ps)
    (h : ∀ b, lM P fid (ys ++ [yv b] ++ cs) (H ++ [.raw AL, .raw (mQ b ⟨N, l, ps, c.asg, c.b⟩ .ready none)]) (fun _ H' => ∃ st pe, H'[H.length + 1]? = some (.raw (mQ b ⟨N, l, ps, c.asg, c.b⟩ st pe)) ∧ st ≠ .busy ∧
      (match pe with
       | none => Cl N Q .normal (Env.ofL l) (H'.set (H.length + 1) .dead) (H.length :: ds)
       | some c' => AWP P none N c' (Env.ofL l) (H'.set (H.length + 1) .dead) (H.length :: ds) Q))) : AWP P none N c (Env.ofL l) H ds Q := by
  cases c with
  | rangeFunc fo ps' asg body =>
    simp only [Code.rps] at hps
    subst hps
    simp only [Code.cnd] at hf
    simp only [Code.asg, Code.b] at h
    intro g w a R hg hr
    refine wpIn_rangeFunc ?_
    intro fn _
    -- the two blocks
    have n1 := hg.sr.OE (.deferred (some [])) rfl AL rfl
    obtain ⟨s1, e1⟩ := n1
    obtain ⟨w1, hw1⟩ : ∃ w1, w1 = w.alloc (.deferred (some [])) := ⟨_, rfl⟩
    obtain ⟨g1, hg1⟩ : ∃ g1, g1 = g.more w.heap.size 0 0 0 := ⟨_, rfl⟩
    rw [← hw1, ← hg1] at s1 e1
    obtain ⟨rec, hrec⟩ : ∃ rec : Loop, rec = { state := .ready, pending := none, fn, tmps := a.tmps, params := ps', assign := asg, body, defers := w.heap.size } := ⟨_, rfl⟩
    have htr1 : TR g1 w1 (Env.ofL l) a.tmps := hg.tr.CM e1.toExt0
    have n2 := s1.OE (.loop rec) rfl (mQ w1.heap.size ⟨N, l, ps', asg, body⟩ .ready none) ⟨rfl, rec, rfl, by rw [hrec], by rw [hrec], by rw [hrec], by rw [hrec], by rw [hrec], by rw [hrec]; exact hg.sz, by
      have ht : rec.tmps = a.tmps := by rw [hrec]
      rw [ht]
      exact htr1.CM ((s1.OE (.loop rec) rfl ⟨fun _ _ _ _ => True, fun _ _ => trivial⟩ trivial).2.toExt0)⟩
    obtain ⟨s2, e2⟩ := n2
    rw [List.append_assoc] at s2
    have hsize : w1.heap.size = w.heap.size + 1 := by rw [hw1]; simp
    have henter : (Instr.enterLoop fn a.tmps ps' asg body (FR none).round).run P w = .ok (w1.heap.size, [{ target := .collected w.heap.size, args := #[] }]) (w1.alloc (.loop rec)) := by
      rw [hsize, hrec, hw1]; exact run_enterLoop_outer fn a.tmps ps' asg body
    obtain ⟨fs, cap, hfv, l1, l2, g1', g2'⟩ := (bV (htr1.CM e2.toExt0) (a := a) (by intro p hp; simp at hp) hf).fnE
    obtain ⟨hent, hcalls⟩ := h w1.heap.size
    have hargs : (ys ++ [yv w1.heap.size] ++ cs).length = (fs ++ #[Value.func (.yield w1.heap.size) #[] #[]] ++ cap).size := by simp [l1, l2]; omega
    refine ⟨w1.heap.size, [{ target := .collected w.heap.size, args := #[] }], w1.alloc (.loop rec), ⟨.fn (.func fid) cap, fs ++ #[Value.func (.yield w1.heap.size) #[] #[]]⟩, w1.alloc (.loop rec), fid, fs ++ #[Value.func (.yield w1.heap.size) #[] #[]] ++ cap, w1.alloc (.loop rec), henter, ?_, fun _ _ => trivial, ?_, fun h => by simp [FR, Fence.wide] at h, ?_⟩
    · have hm : Array.map a.eval #[Operand.const (Value.func (.yield w1.heap.size) #[] #[])] = #[Value.func (.yield w1.heap.size) #[] #[]] := by
        simp [Act.eval]
      simp only [rangeCall, resolve, hfv, Deferred.ofValue, Sem.run_bind, Sem.run_pure, Result.andThen, hm]
    · simp only [invoke, hent]
    · refine IJ ?_
      obtain ⟨l4, g4⟩ := yA (xs := ys) (ys := [yv w1.heap.size]) (as0 := fs) (bs := #[Value.func (.yield w1.heap.size) #[] #[]]) l1 rfl g1' (fun i x y hx hy => by
        cases i with
        | zero => simp at hx hy; subst hx; subst hy; exact .lit _ rfl
        | succ i => simp at hx)
      obtain ⟨l5, g5⟩ := yA l4 l2 g4 g2'
      refine (hcalls _ _ _ s2 l5 g5).mono ?_
      rintro e w3 ⟨v, r, g3, H3, rfl, _, s3, x3, st, pe, hL, hb, hq⟩
      have hlen : H.length + 1 < H3.length := (List.getElem?_eq_some_iff.1 hL).1
      obtain ⟨o3, q1, q2, qb, r3, rfl, z1, z2, z3, z4, z5, z6, z7⟩ := s3.raw _ _ hL
      rw [qb] at q1
      have s4 := s3.AU hL (.loop { r3 with state := .exhausted }) rfl ⟨fun _ _ _ _ => True, fun _ _ => trivial⟩ trivial
      rw [qb] at s4
      obtain ⟨s4, x4⟩ := s4
      have s5 := s4.kill (H.length + 1)
      rw [List.set_set] at s5
      have hxx : Ext g w g3 (w3.putObj w1.heap.size (.loop { r3 with state := .exhausted })) := ((e1.trans e2).trans x3).trans x4
      have hgood : Good N g3 (w3.putObj w1.heap.size (.loop { r3 with state := .exhausted })) (Env.ofL l) (H3.set (H.length + 1) .dead) (H.length :: ds) { a with defers := [{ target := .collected w.heap.size, args := #[] }] ++ a.defers } := by
        refine ⟨s5, hg.tr.CM hxx.toExt0, ?_, ?_, hg.sz⟩
        · have hlt : H.length < (g.more w.heap.size 0 0 0).n := by simp [Gh.more, hg.sr.len]
          have hblk : g3.blk H.length = w.heap.size := by
            rw [x3.blk H.length (by rw [← s2.len]; simp), e2.blk H.length (by rw [hg1]; exact hlt), hg1, hg.sr.len]
            simp [Gh.more, cU]
          rw [List.map_cons, hg.df]
          have : mkD g3 H.length = { target := .collected w.heap.size, args := #[] } := by simp [mkD, hblk]
          rw [this]
          show _ :: _ = _ :: _
          congr 1
          apply List.map_congr_left
          intro l' hl'
          simp only [mkD, hxx.blk l' (hg.dl l' hl')]
        · intro l' hl'
          rcases List.mem_cons.1 hl' with rfl | hl'
          · rw [← s3.len]; omega
          · exact Nat.lt_of_lt_of_le (hg.dl l' hl') hxx.n
      refine ⟨_, _, run_endLoop q1 (by rw [z1]; exact hb), ?_⟩
      split
      · rename_i hp
        have hpe : pe = none := z2.symm.trans hp
        subst hpe
        obtain ⟨g5, T5, H5, hg5, hx5, hq5⟩ := hq _ _ _ hgood
        exact hr _ _ _ _ _ _ _ hq5 hg5 (hxx.trans hx5)
      · rename_i c' hp
        have hpe : pe = some c' := z2.symm.trans hp
        subst hpe
        exact hq _ _ _ _ hgood fun e T' H' ds' g' w' a' hq' hg' hx' => hr e T' H' ds' g' w' a' hq' hg' (hxx.trans hx')
  | region i o d => cases d <;> simp [Code.kind] at hk
  | _ => simp [Code.kind] at hk

end Go.Abs
namespace Go.Abs
open Go Go.RowKit
variable {P : Program} {tt : TT} {g : Gh} {w : World} {H : aR}
def shut : List Nat → aR → aR
  | [], H => H
  | l :: r, H => shut r (H.set l .dead)

def xV (tt : TT) (T : Env) (H : aR) : List ResultVar → List V → Prop
  | [], [] => True
  | .tmp t :: r, x :: xs => T t = some ([], x) ∧ xV tt T H r xs
  | .cell a t :: r, x :: xs => (∃ l i o k es y, T a = some ([], .lp l i o) ∧ H[l]? = some (.vec k es) ∧ es[i]? = some y ∧ (∃ e, tt t = some e) ∧ CN tt t y o = some x) ∧ xV tt T H r xs
  | _, _ => False

def GJ : List V → V
  | [x] => x
  | xs => .tup xs

theorem GR (htt : eE P tt) {T : Env} {tmps : Array Value} (hs : SR g w H) (h : TR g w T tmps) : ∀ {rs : List ResultVar} {xs : List V}, xV tt T H rs xs →
    ∃ vs : List Value, (rs.mapM fun | .tmp t => pure (tmps.getD t undef) | .cell a t => do loadVar t (← asAddr (tmps.getD a undef)) : Sem (List Value)).run P w = .ok vs w ∧ xs.length = vs.length ∧
      ∀ (i : Nat) x y, xs[i]? = some x → vs[i]? = some y → Rep g w x y
  | [], [], _ => ⟨[], rfl, rfl, by simp⟩
  | [], _ :: _, he => he.elim
  | .tmp t :: r, [], he => he.elim
  | .cell a t :: r, [], he => he.elim
  | .tmp t :: r, x :: xs, he => by
    obtain ⟨ht, hr⟩ := he
    obtain ⟨v, hv, hrep⟩ := (h t [] x ht).1 (by simp [cC])
    obtain ⟨vs, h1, h2, h3⟩ := GR htt hs h hr
    refine ⟨v :: vs, ?_, by simp [h2], fun i a b ha hb => ?_⟩
    · simp only [List.mapM_cons, Sem.run_bind, Sem.run_pure, Result.andThen, h1]
      simp [hv]
    · cases i with
      | zero => simp at ha hb; subst ha; subst hb; exact hrep
      | succ i => simp at ha hb; exact h3 i a b ha hb
  | .cell a t :: r, x :: xs, he => by
    obtain ⟨⟨l, i, o, k, es, y, ht, hl, hy, ⟨e, hte⟩, hx⟩, hr⟩ := he
    obtain ⟨v, hv, hrep⟩ := (h a [] _ ht).1 (by simp [cC])
    obtain ⟨u, hu, hru⟩ := HZ (P := P) htt hs hte hl hy hrep hx
    obtain ⟨hln, rfl⟩ := hrep.lpE
    obtain ⟨vs, h1, h2, h3⟩ := GR htt hs h hr
    have hu' : (loadVar t ⟨g.blk l, g.off l + i * g.k l + o, none⟩).run P w = .ok u w := hu
    refine ⟨u :: vs, ?_, by simp [h2], fun j p q ha hb => ?_⟩
    · have hg : tmps.getD a undef = .pointer (some ⟨g.blk l, g.off l + i * g.k l + o, none⟩) := by simp [hv]
      have hfirst : (do loadVar t (← asAddr (tmps.getD a undef)) : Sem Value).run P w = .ok u w := by
        rw [hg]
        exact (Sem.run_bind ..).trans hu'
      rw [List.mapM_cons]
      refine (Sem.run_bind ..).trans ?_
      refine (congrArg (fun r => Result.andThen r _) hfirst).trans ?_
      refine (Sem.run_bind ..).trans ?_
      refine (congrArg (fun r => Result.andThen r _) h1).trans ?_
      rfl
    · cases j with
      | zero => simp at ha hb; subst ha; subst hb; exact hru
      | succ j => simp at ha hb; exact h3 j p q ha hb

theorem UH (htt : eE P tt) {T : Env} {tmps : Array Value} {fn : Func} (hs : SR g w H) (h : TR g w T tmps) {xs : List V} (hx : xV tt T H fn.results.toList xs) : ∃ v, (results fn tmps).run P w = .ok v w ∧ Rep g w (GJ xs) v := by
  obtain ⟨vs, h1, h2, h3⟩ := GR (P := P) htt hs h hx
  have main : (results fn tmps).run P w = .ok (if h : vs.toArray.size = 1 then vs.toArray[0] else .tuple vs.toArray) w := by
    unfold results
    rw [Array.mapM_eq_mapM_toList]
    refine (Sem.run_bind ..).trans ?_
    have : Sem.run P (List.toArray <$> (fn.results.toList.mapM fun | .tmp t => pure (tmps.getD t undef) | .cell a t => do loadVar t (← asAddr (tmps.getD a undef)) : Sem (List Value))) w = .ok vs.toArray w := by
      change Sem.run P ((fn.results.toList.mapM fun | .tmp t => pure (tmps.getD t undef) | .cell a t => do loadVar t (← asAddr (tmps.getD a undef)) : Sem (List Value)).bind fun x => Sem.pure x.toArray) w = _
      exact (Sem.run_bind ..).trans (by rw [h1]; rfl)
    exact (congrArg (fun r => Result.andThen r (fun (a : Array Value) w' => Sem.run P (pure (if h : a.size = 1 then a[0] else Value.tuple a)) w')) this).trans rfl
  by_cases hs1 : vs.length = 1
  · obtain ⟨v, rfl⟩ := List.length_eq_one_iff.1 hs1
    obtain ⟨x, rfl⟩ := List.length_eq_one_iff.1 (h2.trans hs1)
    exact ⟨v, main, h3 0 _ _ rfl rfl⟩
  · rw [dif_neg (by simpa using hs1)] at main
    refine ⟨_, main, ?_⟩
    have : GJ xs = .tup xs := by
      match xs, h2 with
      | [], _ => rfl
      | [x], h2 => exact absurd h2.symm hs1
      | _ :: _ :: _, _ => rfl
    rw [this]
    exact .tup _ _ (by simpa using h2) (fun i a b ha hb => h3 i a b ha (by simpa using hb))

def LO (tt : TT) (fn : Func) (Q : V → aR → Prop) : Exit → Env → aR → List Nat → Prop
  | .normal, T, H, ds => ds.Nodup ∧ (∀ l ∈ ds, H[l]? = some (.raw AL)) ∧ ∃ xs, xV tt T (shut ds H) fn.results.toList xs ∧ Q (GJ xs) (shut ds H)
  | .ret, T, H, ds => ds.Nodup ∧ (∀ l ∈ ds, H[l]? = some (.raw AL)) ∧ ∃ xs, xV tt T (shut ds H) fn.results.toList xs ∧ Q (GJ xs) (shut ds H)
  | _, _, _, _ => False

theorem GB {fn : Func} {T : Env} {tmps : Array Value} {R : Ending → World → Prop} : ∀ (ds : List Nat) (w : World) (H : aR), SR g w H → (∀ l ∈ ds, H[l]? = some (.raw AL)) → ds.Nodup → TR g w T tmps →
    (∀ w', SR g w' (shut ds H) → Ext g w g w' → TR g w' T tmps → ∃ v, (results fn tmps).run P w' = .ok v w' ∧ R (.returned v) w') → LeavesInM Fence.wide 0 P fn tmps R (ds.map (mkD g)) .returning w
  | [], w, H, hs, _, _, ht, hr => by
    exact hr w hs (Ext.refl g w) ht
  | l :: ds, w, H, hs, hd, hn, ht, hr => by
    have hl := hd l (by simp)
    obtain ⟨o, q1, _, (rfl : o = .deferred (some []))⟩ := hs.raw l _ hl
    have s1 := hs.AU hl (.deferred none) rfl ⟨fun _ _ _ _ => True, fun _ _ => trivial⟩ trivial
    have s2 := s1.1.kill l
    rw [List.set_set] at s2
    refine ⟨by simp, .inl ⟨g.blk l, w.putObj (g.blk l) (.deferred none), rfl, run_takeDeferred q1, ?_⟩⟩
    refine GB ds _ _ s2 (fun l' hl' => ?_) (List.nodup_cons.1 hn).2 (ht.CM s1.2.toExt0) (fun w' h1 h2 h3 => hr w' h1 (s1.2.trans h2) h3)
    have hne : l ≠ l' := fun he => (List.nodup_cons.1 hn).1 (he ▸ hl')
    rw [List.getElem?_set_ne hne]
    exact hd l' (by simp [hl'])

theorem VW (htt : eE P tt) {f : Nat} {fn : Func} {args : List V} {Q : V → aR → Prop} (hf : P.funcs[f]? = some fn) (hb : fn.body.isSome = true) (hname : (fn.name == "runtime.NumGoroutine") = false) (hN0 : Nat.ble args.length fn.ntmps = true)
    (h : AWP P none fn.ntmps (B fn) (Env.ofL (params 0 args)) H [] (LO tt fn Q)) : lM P f args H Q := by
  have hN : args.length ≤ fn.ntmps := Nat.le_of_ble_eq_true hN0
  obtain ⟨c, hc⟩ := Option.isSome_iff_exists.1 hb
  refine ⟨fun as0 w => ?_, fun g w vs hs hl hr => ?_⟩
  · simp only [callFunc, Sem.run_bind, program, Sem.run, Result.andThen, hf]
    simp [hname, hc]
  · refine (callsIn_wide (n := 0)).1 (callsIn_of_wp_marks (F := Fence.wide) hf hc trivial ?_)
    rw [show B fn = c by simp [B, hc]] at h
    refine h g w _ _ ⟨hs, ?_, rfl, by simp, ?_⟩ ?_
    · refine EN fun j x hx => ?_
      have hj : j < vs.size := by rw [← hl]; exact (List.getElem?_eq_some_iff.1 hx).1
      refine ⟨vs[j], ?_, hr j x _ hx (Array.getElem?_eq_getElem hj)⟩
      simp only [Nat.zero_add]
      rw [Array.getElem?_append_left hj]
      exact Array.getElem?_eq_getElem hj
    · simp; omega
    · intro e T' H' ds' g' w' a' hq hg hx
      have fin : ds'.Nodup → (∀ l ∈ ds', H'[l]? = some (.raw AL)) → (∃ xs, xV tt T' (shut ds' H') fn.results.toList xs ∧ Q (GJ xs) (shut ds' H')) →
          LeavesInM Fence.wide 0 P fn a'.tmps (fun e w'' => ∃ v r g2 H2, e = .returned v ∧ Rep g2 w'' r v ∧ SR g2 w'' H2 ∧ Ext g w g2 w'' ∧ Q r H2) a'.defers .returning w' := by
        intro h1 h2 ⟨xs, h3, h4⟩
        rw [hg.df]
        refine GB ds' w' H' hg.sr h2 h1 hg.tr fun w2 s2 x2 t2 => ?_
        obtain ⟨v, hv, hrep⟩ := UH (P := P) htt s2 t2 h3
        exact ⟨v, hv, v, _, g', _, rfl, hrep, s2, hx.trans x2, h4⟩
      cases e with
      | normal => exact fin hq.1 hq.2.1 hq.2.2
      | ret => exact fin hq.1 hq.2.1 hq.2.2
      | _ => exact hq.elim

theorem PZ (htt : eE P tt) {f : Nat} {fn : Func} {args : List V} {Q : V → aR → Prop} (hf : P.funcs[f]? = some fn) (hb : fn.body.isSome = true) (hname : (fn.name == "runtime.NumGoroutine") = false) (hN0 : Nat.ble args.length fn.ntmps = true)
    (h : AWP P none fn.ntmps (B fn) (Env.ofL (params 0 args)) H [] (LO tt fn (fun r H => ∃ r', aS r r' ∧ Q r' H))) : lM P f args H Q :=
  (VW htt hf hb hname hN0 h).post fun _ _ h => h

end Go.Abs
namespace Go.Abs
open Go Go.RowKit
variable {P : Program} {tt : TT} {ro : Option Nat} {N : Nat} {T : Env} {H : aR} {ds : List Nat} {Q : Exit → Env → aR → List Nat → Prop}
abbrev Gs := List (Nat × cQ)

structure GOk (H : aR) (G : Gs) : Prop where
  m : ∀ (i : Nat) p, G[i]? = some p → H[p.1]? = some p.2
  n : ∀ (i j : Nat) p q, G[i]? = some p → G[j]? = some q → i ≠ j → p.1 ≠ q.1

structure GStep (H : aR) (G : Gs) (H' : aR) (G' : Gs) : Prop where
  ok : GOk H' G'
  ext : pK ⟨H, G.map (·.1), []⟩ H'
  loc : ∀ p ∈ G', p.1 ∈ G.map (·.1) ∨ H.length ≤ p.1

def RP {σ : Type} (I : σ → Gs → Prop) (s : σ) (H : aR) (G : Gs) (H' : aR) : Prop := ∃ G', I s G' ∧ GStep H G H' G'

def sM (P : Program) (f : FuncId) {σ : Type} (I : σ → Gs → Prop) (s : σ) (args : List V) (s' : σ) (r : V) : Prop :=
  ∀ H G, I s G → GOk H G → lM P f args H fun x H' => x = r ∧ RP I s' H G H'

def CI (P : Program) (fv : V) {σ : Type} (I : σ → Gs → Prop) (s : σ) (args : List V) (s' : σ) (r : V) : Prop :=
  ∀ H G, I s G → GOk H G → yI P fv args H fun x H' => x = r ∧ RP I s' H G H'

theorem sM.sub {f : FuncId} {σ : Type} {I : σ → Gs → Prop} {s s' : σ} {as0 as0' : List V} {r : V} (h : sM P f I s as0' s' r) (hs : oH as0 as0') : sM P f I s as0 s' r := fun H G hi hg => (h H G hi hg).sub hs

theorem aL.gok {F : Frame} {L : List (Nat × Nat × List V)} (h : aL F H L) : GOk H F.g := ⟨fun i p hi => (h.gm i p hi).2, h.gn⟩

theorem tX {α : Type} {l : List α} {x : α} (h : x ∈ l) : ∃ i : Nat, l[i]? = some x := by
  obtain ⟨i, hi, rfl⟩ := List.mem_iff_getElem.1 h
  exact ⟨i, List.getElem?_eq_getElem hi⟩

theorem aL.DX {G : Gs} (h : GOk H G) : aL ⟨H, G.map (·.1), G⟩ H [] where
  ext := pK.refl H _ _
  ne := by simp
  mem := by simp
  gm i p hi := ⟨.inr (List.mem_map.2 ⟨p, List.mem_of_getElem? hi, rfl⟩), h.m i p hi⟩
  gl := by simp
  gn := h.n

theorem aL.DH {H0 : aR} {G0 G : Gs} {L : List (Nat × Nat × List V)} (h : aL ⟨H0, G0.map (·.1), G⟩ H L) : GStep H0 G0 H G where
  ok := h.gok
  ext := ⟨h.ext.1, h.ext.2⟩
  loc p hp := by
    obtain ⟨i, hi⟩ := tX hp
    rcases (h.gm i p hi).1 with h1 | h1
    · exact .inr h1
    · exact .inl h1

theorem aL.SV {F : Frame} {G' : Gs} {H' : aR} {L : List (Nat × Nat × List V)} (h : aL F H L) (hs : GStep H F.g H' G') : aL { F with g := G' } H' L where
  ext := ⟨Nat.le_trans h.ext.1 hs.ext.1, fun l hl he => by
    have hne : l ∉ F.g.map (·.1) := by
      intro hm
      obtain ⟨p, hp, rfl⟩ := List.mem_map.1 hm
      obtain ⟨i, hi⟩ := tX hp
      rcases (h.gm i p hi).1 with h1 | h1
      · exact absurd hl (by show ¬ p.1 < F.h.length; omega)
      · exact he h1
    exact (hs.ext.2 l (Nat.lt_of_lt_of_le hl h.ext.1) hne).trans (h.ext.2 l hl he)⟩
  ne := h.ne
  mem i lo k es hi := by
    obtain ⟨h1, h2⟩ := h.mem i lo k es hi
    refine ⟨h1, ?_⟩
    have hne : lo ∉ F.g.map (·.1) := by
      intro hm
      obtain ⟨p, hp, he⟩ := List.mem_map.1 hm
      obtain ⟨j, hj⟩ := tX hp
      exact h.gl j i p _ hj hi he
    exact (hs.ext.2 lo (List.getElem?_eq_some_iff.1 h2).1 hne).trans h2
  gm i p hi := by
    refine ⟨?_, hs.ok.m i p hi⟩
    rcases hs.loc p (List.mem_of_getElem? hi) with h1 | h1
    · obtain ⟨q, hq, he⟩ := List.mem_map.1 h1
      obtain ⟨j, hj⟩ := tX hq
      have := (h.gm j q hj).1
      rw [he] at this; exact this
    · exact .inl (Nat.le_trans h.ext.1 h1)
  gl i j p q hi hj := by
    rcases hs.loc p (List.mem_of_getElem? hi) with h1 | h1
    · obtain ⟨r, hr, he⟩ := List.mem_map.1 h1
      obtain ⟨a, ha⟩ := tX hr
      rw [← he]; exact h.gl a j r q ha hj
    · have := h.lt hj; omega
  gn := hs.ok.n

def up (L : List (Nat × Nat × List V)) : Gs := L.map fun p => (p.1, .vec p.2.1 p.2.2)

theorem DG {L : List (Nat × Nat × List V)} {i : Nat} {p : Nat × cQ} (h : (up L)[i]? = some p) : ∃ lo k es, L[i]? = some (lo, k, es) ∧ p = (lo, .vec k es) := by
  simp only [up, List.getElem?_map, Option.map_eq_some_iff] at h
  obtain ⟨⟨lo, k, es⟩, h1, h2⟩ := h
  exact ⟨lo, k, es, h1, h2.symm⟩

theorem LN {L : List (Nat × Nat × List V)} {i : Nat} {lo k : Nat} {es : List V} (h : L[i]? = some (lo, k, es)) : (up L)[i]? = some (lo, .vec k es) := by simp [up, h]

theorem get_append {α : Type} {A B : List α} {i : Nat} {p : α} (h : (A ++ B)[i]? = some p) : A[i]? = some p ∨ ∃ j, i = A.length + j ∧ B[j]? = some p := by
  by_cases hi : i < A.length
  · rw [List.getElem?_append_left hi] at h; exact .inl h
  · rw [List.getElem?_append_right (by omega)] at h
    exact .inr ⟨i - A.length, by omega, h⟩

theorem aL.GL {F : Frame} {L : List (Nat × Nat × List V)} (h : aL F H L) : aL { F with g := up L ++ F.g } H [] where
  ext := ⟨h.ext.1, h.ext.2⟩
  ne := by simp
  mem := by simp
  gm i p hi := by
    rcases get_append hi with h1 | ⟨j, _, h1⟩
    · obtain ⟨lo, k, es, h2, rfl⟩ := DG h1
      exact h.mem i lo k es h2
    · exact h.gm j p h1
  gl := by simp
  gn i j p q hi hj hij := by
    rcases get_append hi with h1 | ⟨i', e1, h1⟩ <;> rcases get_append hj with h2 | ⟨j', e2, h2⟩
    · obtain ⟨lo, k, es, a1, rfl⟩ := DG h1
      obtain ⟨lo', k', es', a2, rfl⟩ := DG h2
      exact h.ne i j _ _ a1 a2 hij
    · obtain ⟨lo, k, es, a1, rfl⟩ := DG h1
      exact (h.gl j' i q _ h2 a1).symm
    · obtain ⟨lo, k, es, a1, rfl⟩ := DG h2
      exact h.gl i' j p _ h1 a1
    · exact h.gn i' j' p q h1 h2 (by omega)

theorem aL.take {H0 : aR} {E : List Nat} {G : Gs} {L : List (Nat × Nat × List V)} (h : aL ⟨H0, E, up L ++ G⟩ H []) : aL ⟨H0, E, G⟩ H L where
  ext := ⟨h.ext.1, h.ext.2⟩
  ne i j p q hi hj hij := by
    have a1 : (up L ++ G)[i]? = some (p.1, .vec p.2.1 p.2.2) := by
      have hl := (List.getElem?_eq_some_iff.1 hi).1
      rw [List.getElem?_append_left (by simpa [up] using hl)]; exact LN hi
    have a2 : (up L ++ G)[j]? = some (q.1, .vec q.2.1 q.2.2) := by
      have hl := (List.getElem?_eq_some_iff.1 hj).1
      rw [List.getElem?_append_left (by simpa [up] using hl)]; exact LN hj
    exact h.gn i j _ _ a1 a2 hij
  mem i lo k es hi := by
    have hl := (List.getElem?_eq_some_iff.1 hi).1
    exact h.gm i (lo, .vec k es) (by rw [List.getElem?_append_left (by simpa [up] using hl)]; exact LN hi)
  gm i p hi := h.gm ((up L).length + i) p (by rw [List.getElem?_append_right (by omega)]; simpa using hi)
  gl i j p q hi hj := by
    have hl := (List.getElem?_eq_some_iff.1 hj).1
    have a2 : (up L ++ G)[j]? = some (q.1, .vec q.2.1 q.2.2) := by
      rw [List.getElem?_append_left (by simpa [up] using hl)]; exact LN hj
    have a1 : (up L ++ G)[(up L).length + i]? = some p := by rw [List.getElem?_append_right (by omega)]; simpa using hi
    exact h.gn _ j _ _ a1 a2 (by simp only [up, List.length_map]; omega)
  gn i j p q hi hj hij := h.gn ((up L).length + i) ((up L).length + j) p q (by rw [List.getElem?_append_right (by omega)]; simpa using hi) (by rw [List.getElem?_append_right (by omega)]; simpa using hj) (by omega)

theorem aL.EL {H0 : aR} {E : List Nat} {G : Gs} {L : List (Nat × Nat × List V)} {l : Nat} {o : cQ} (h : aL ⟨H0, E, (l, o) :: G⟩ H L) (o' : cQ) : aL ⟨H0, E, (l, o') :: G⟩ (H.set l o') L where
  ext := by
    have hl := (h.gm 0 (l, o) rfl).1
    have := h.ext.set (l := l) hl o'
    exact ⟨this.1, this.2⟩
  ne := h.ne
  mem i lo k es hi := by
    obtain ⟨h1, h2⟩ := h.mem i lo k es hi
    exact ⟨h1, by rw [List.getElem?_set_ne (h.gl 0 i (l, o) _ rfl hi)]; exact h2⟩
  gm i p hi := by
    cases i with
    | zero =>
      simp at hi; subst hi
      obtain ⟨h1, h2⟩ := h.gm 0 (l, o) rfl
      have hlt := (List.getElem?_eq_some_iff.1 h2).1
      exact ⟨h1, by simp only at hlt; simp [hlt]⟩
    | succ i =>
      obtain ⟨h1, h2⟩ := h.gm (i + 1) p hi
      exact ⟨h1, by rw [List.getElem?_set_ne (h.gn 0 (i + 1) (l, o) p rfl hi (by omega))]; exact h2⟩
  gl i j p q hi hj := by
    cases i with
    | zero => simp at hi; subst hi; exact h.gl 0 j (l, o) q rfl hj
    | succ i => exact h.gl (i + 1) j p q hi hj
  gn i j p q hi hj hij := by
    cases i with
    | zero => cases j with
      | zero => exact absurd rfl hij
      | succ j => simp at hi; subst hi; exact h.gn 0 (j + 1) (l, o) q rfl hj hij
    | succ i => cases j with
      | zero => simp at hj; subst hj; exact h.gn (i + 1) 0 p (l, o) hi rfl hij
      | succ j => exact h.gn (i + 1) (j + 1) p q hi hj hij

theorem aL.CR {H0 : aR} {E : List Nat} {G : Gs} {L : List (Nat × Nat × List V)} {p : Nat × cQ} (h : aL ⟨H0, E, p :: G⟩ H L) : aL ⟨H0, E, G⟩ H L where
  ext := ⟨h.ext.1, h.ext.2⟩
  ne := h.ne
  mem := h.mem
  gm i q hi := h.gm (i + 1) q hi
  gl i j q r hi hj := h.gl (i + 1) j q r hi hj
  gn i j q r hi hj hij := h.gn (i + 1) (j + 1) q r hi hj (by omega)

theorem aL.XW {H0 : aR} {E : List Nat} {G : Gs} {L : List (Nat × Nat × List V)} {p q : Nat × cQ} (h : aL ⟨H0, E, p :: q :: G⟩ H L) : aL ⟨H0, E, q :: p :: G⟩ H L := by
  have key : ∀ (i : Nat) r, (q :: p :: G)[i]? = some r → ∃ j, (p :: q :: G)[j]? = some r ∧ j = if i = 0 then 1 else if i = 1 then 0 else i := by
    intro i r hr
    match i with
    | 0 => exact ⟨1, hr, rfl⟩
    | 1 => exact ⟨0, hr, rfl⟩
    | i + 2 => exact ⟨i + 2, hr, by simp⟩
  refine ⟨⟨h.ext.1, h.ext.2⟩, h.ne, h.mem, fun i r hi => ?_, fun i j r s hi hj => ?_, fun i j r s hi hj hij => ?_⟩
  · obtain ⟨j, h1, _⟩ := key i r hi; exact h.gm j r h1
  · obtain ⟨a, h1, _⟩ := key i r hi; exact h.gl a j r s h1 hj
  · obtain ⟨a, h1, e1⟩ := key i r hi
    obtain ⟨b, h2, e2⟩ := key j s hj
    refine h.gn a b r s h1 h2 ?_
    subst e1; subst e2
    split <;> split <;> (try split) <;> (try split) <;> omega

section rules
variable {ops : Array Oper} {K : Env → aR → Prop} {i n : Nat}
def BS (N : Nat) (ops : Array Oper) (T : Env) (i : Nat) : Option (V × List V) := match fY N ops i with
  | some (.call ⟨.value f, args, _⟩) => match bY T [] f, gZ T [] args.toList with
    | some fv, some xs => some (fv, xs)
    | _, _ => none
  | _ => none

theorem QC {fv : V} {as0 : List V} (hs : aJ i n = i :: aJ (i + 1) n) (hd : BS N ops T i = some (fv, as0)) {Q : V → aR → Prop} (hc : yI P fv as0 H Q)
    (h : ∀ r H', Q r H' → RWs P tt N ops (aJ (i + 1) n) (T.bO (cB ops i) ([], r)) H' K) : RWs P tt N ops (aJ i n) T H K := by
  unfold BS at hd
  split at hd
  · rename_i f args tys hp
    split at hd
    · rename_i fv' xs hf hx
      simp at hd; obtain ⟨rfl, rfl⟩ := hd
      exact tS hs hp ⟨_, _, hf, hx, hc.mono h⟩
    · simp at hd
  · simp at hd

theorem FE {σ : Type} {I : σ → Gs → Prop} {H0 : aR} {E : List Nat} {G : Gs} {L : List (Nat × Nat × List V)} {s s' : σ} (fv : V) (as0 : List V) (x : V) (hs : aJ i n = i :: aJ (i + 1) n) (hd : BS N ops T i = some (fv, as0)) (hc : CI P fv I s as0 s' x)
    (hO : aL ⟨H0, E, G⟩ H L) (hI : I s G) (h : ∀ G' H', aL ⟨H0, E, G'⟩ H' L → I s' G' → RWs P tt N ops (aJ (i + 1) n) (T.bO (cB ops i) ([], x)) H' K) : RWs P tt N ops (aJ i n) T H K :=
  QC hs hd (hc H G hI hO.gok) fun _ H' ⟨e, G', hi, hst⟩ => e ▸ h G' H' (hO.SV hst) hi

end rules
end Go.Abs
namespace Go.Abs
open Go Go.RowKit
variable {P : Program} {tt : TT} {ro : Option Nat} {N : Nat} {T : Env} {H : aR} {ds : List Nat} {Q : Exit → Env → aR → List Nat → Prop}
theorem zG {G : Gs} : (∀ (i j : Nat) p q, G[i]? = some p → G[j]? = some q → i ≠ j → p.1 ≠ q.1) ↔ (G.map (·.1)).Nodup := by
  rw [List.nodup_iff_pairwise_ne, List.pairwise_map, List.pairwise_iff_getElem]
  constructor
  · intro h i j hi hj hij
    exact h i j _ _ (List.getElem?_eq_getElem hi) (List.getElem?_eq_getElem hj) (by omega)
  · intro h i j p q hp hq hij
    obtain ⟨h1, rfl⟩ := List.getElem?_eq_some_iff.1 hp
    obtain ⟨h2, rfl⟩ := List.getElem?_eq_some_iff.1 hq
    rcases Nat.lt_or_gt_of_ne hij with h3 | h3
    · exact h i j h1 h2 h3
    · exact (h j i h2 h1 h3).symm

theorem aL.RZ {H0 : aR} {E : List Nat} {G G' : Gs} {L : List (Nat × Nat × List V)} (h : aL ⟨H0, E, G⟩ H L) (hp : G.Perm G') : aL ⟨H0, E, G'⟩ H L where
  ext := ⟨h.ext.1, h.ext.2⟩
  ne := h.ne
  mem := h.mem
  gm i p hi := by
    obtain ⟨j, hj⟩ := tX (hp.mem_iff.2 (List.mem_of_getElem? hi))
    exact h.gm j p hj
  gl i j p q hi hj := by
    obtain ⟨a, ha⟩ := tX (hp.mem_iff.2 (List.mem_of_getElem? hi))
    exact h.gl a j p q ha hj
  gn := zG.2 ((hp.map (·.1)).nodup_iff.1 (zG.1 h.gn))

theorem aL.XP {H0 : aR} {E : List Nat} {G : Gs} {L : List (Nat × Nat × List V)} (h : aL ⟨H0, E, G⟩ H L) (o : cQ) : aL ⟨H0, E, (H.length, o) :: G⟩ (H ++ [o]) L where
  ext := by
    have := h.ext.push o
    exact ⟨this.1, this.2⟩
  ne := h.ne
  mem i lo k es hi := let ⟨h1, h2⟩ := h.mem i lo k es hi; ⟨h1, pW h2⟩
  gm i p hi := by
    cases i with
    | zero => simp at hi; subst hi; exact ⟨.inl h.ext.1, by simp⟩
    | succ i => obtain ⟨h1, h2⟩ := h.gm i p hi; exact ⟨h1, pW h2⟩
  gl i j p q hi hj := by
    cases i with
    | zero => simp at hi; subst hi; exact (Nat.ne_of_lt (h.lt hj)).symm
    | succ i => exact h.gl i j p q hi hj
  gn i j p q hi hj hij := by
    cases i with
    | zero => cases j with
      | zero => exact absurd rfl hij
      | succ j => simp at hi; subst hi; exact (Nat.ne_of_lt (h.glt (i := j) hj)).symm
    | succ i => cases j with
      | zero => simp at hj; subst hj; exact Nat.ne_of_lt (h.glt (i := i) hi)
      | succ j => exact h.gn i j p q hi hj (by omega)

theorem aL.aAx {H0 : aR} {E : List Nat} {p0 : Nat × cQ} {G G' : Gs} {H' : aR} {L : List (Nat × Nat × List V)} (h : aL ⟨H0, E, p0 :: G⟩ H L) (hs : GStep H G H' G') : aL ⟨H0, E, p0 :: G'⟩ H' L := by
  have h1 : aL ⟨H0, E, G'⟩ H' L := h.CR.SV hs
  have hp0 := h.gm 0 p0 rfl
  have hlt := (List.getElem?_eq_some_iff.1 hp0.2).1
  have hne : p0.1 ∉ G.map (·.1) := by
    intro hm
    obtain ⟨q, hq, he⟩ := List.mem_map.1 hm
    obtain ⟨j, hj⟩ := tX hq
    exact h.gn (j + 1) 0 q p0 hj rfl (by omega) he
  have key : ∀ (i : Nat) p, G'[i]? = some p → p0.1 ≠ p.1 := by
    intro i p hi he
    rcases hs.loc p (List.mem_of_getElem? hi) with h2 | h2
    · exact hne (he ▸ h2)
    · omega
  refine ⟨⟨h1.ext.1, h1.ext.2⟩, h1.ne, h1.mem, fun i p hi => ?_, fun i j p q hi hj => ?_, fun i j p q hi hj hij => ?_⟩
  · cases i with
    | zero => simp at hi; subst hi; exact ⟨hp0.1, (hs.ext.2 _ hlt hne).trans hp0.2⟩
    | succ i => exact h1.gm i p hi
  · cases i with
    | zero => simp at hi; subst hi; exact h.gl 0 j p0 q rfl hj
    | succ i => exact h1.gl i j p q hi hj
  · cases i with
    | zero => cases j with
      | zero => exact absurd rfl hij
      | succ j => simp at hi; subst hi; exact key j q hj
    | succ i => cases j with
      | zero => simp at hj; subst hj; exact (key i p hi).symm
      | succ j => exact h1.gn i j p q hi hj (by omega)

theorem VZ {H0 : aR} {G0 : Gs} {lL : Nat} {s : cQ} {G : Gs} {L : List (Nat × Nat × List V)} (h : aL ⟨H0, G0.map (·.1), (lL, s) :: G⟩ H L) (s' : cQ) : GStep H0 G0 (H.set lL s') ((lL, s') :: (up L ++ G)) := by
  have h1 := (h.EL s').GL
  have h2 : aL ⟨H0, G0.map (·.1), (lL, s') :: (up L ++ G)⟩ (H.set lL s') [] := h1.RZ List.perm_middle
  exact h2.DH

theorem yC {H0 : aR} {E : List Nat} {lD lL : Nat} {d s : cQ} {G : Gs} {L : List (Nat × Nat × List V)} (h : aL ⟨H0, E, (lD, d) :: (lL, s) :: (up L ++ G)⟩ H []) :
    H[lL]? = some s ∧ aL ⟨H0, E, (lD, d) :: G⟩ (H.set lL .dead) L := by
  refine ⟨(h.gm 1 _ rfl).2, ?_⟩
  have h1 := (h.XW.EL .dead).CR
  have h2 : aL ⟨H0, E, up L ++ ((lD, d) :: G)⟩ (H.set lL .dead) [] := h1.RZ List.perm_middle.symm
  exact h2.take

theorem MM {σ : Type} {c : Code} {l : List (Nat × V)} {fid : Nat} {ys cs : List V} {H0 : aR} {E : List Nat} {G : Gs} {L : List (Nat × Nat × List V)} (ps : Array Tmp) (I : BO → Nat → Nat → σ → Gs → Prop) (s0 s1 : σ) (v : V)
    (hk : c.kind = 9) (hf : bY (Env.ofL l) [] c.cnd = some (.fn (.func fid) ys cs)) (hps : c.rps = ps) (hO : aL ⟨H0, E, G⟩ H L)
    (h0 : ∀ b lL, I ⟨N, l, ps, c.asg, c.b⟩ b lL s0 ((lL, .raw (mQ b ⟨N, l, ps, c.asg, c.b⟩ .ready none)) :: (up L ++ G)))
    (hit : ∀ b lL, sM P fid (I ⟨N, l, ps, c.asg, c.b⟩ b lL) s0 (ys ++ [yv b] ++ cs) s1 v)
    (hend : ∀ b lD lL H' G', I ⟨N, l, ps, c.asg, c.b⟩ b lL s1 G' → aL ⟨H0, E, (lD, .raw AL) :: G'⟩ H' [] → ∃ st pe, H'[lL]? = some (.raw (mQ b ⟨N, l, ps, c.asg, c.b⟩ st pe)) ∧ st ≠ .busy ∧
      (match pe with
       | none => Cl N Q .normal (Env.ofL l) (H'.set lL .dead) (lD :: ds)
       | some c' => AWP P none N c' (Env.ofL l) (H'.set lL .dead) (lD :: ds) Q)) : AWP P none N c (Env.ofL l) H ds Q := by
  refine YH hk hf hps fun b => ?_
  have o1 := (hO.GL.XP (.raw AL)).XP (.raw (mQ b ⟨N, l, ps, c.asg, c.b⟩ .ready none))
  have hl1 : (H ++ [cQ.raw AL]).length = H.length + 1 := by simp
  rw [hl1] at o1
  have o2 := o1.XW
  rw [List.append_assoc] at o2
  refine (hit b (H.length + 1) _ _ (h0 b (H.length + 1)) o2.CR.gok).mono ?_
  rintro x H' ⟨_, G', hi, hst⟩
  exact hend b H.length (H.length + 1) H' G' hi (o2.aAx hst)

end Go.Abs
namespace Go.Abs
open Go Go.RowKit
variable {P : Program} {tt : TT} {ro : Option Nat} {N : Nat} {T : Env} {H : aR} {ds : List Nat} {Q : Exit → Env → aR → List Nat → Prop}
theorem eE.of (P : Program) : eE P ⟨RK P, MH P⟩ := ⟨fun _ _ h => h, fun _ h => h⟩

def XU (P : Program) (f : FuncId) (args : List V) (r : V) : Prop := ∀ H, MW P f args H fun x H' => x = r ∧ H' = H

theorem ZE {ops : Array Oper} {K : Env → aR → Prop} {i n : Nat} {H0 : Frame} {L : List (Nat × Nat × List V)} (fid : Nat) (as0 : List V) (x : V) (hs : aJ i n = i :: aJ (i + 1) n) (hd : BS N ops T i = some (.fn (.func fid) [] [], as0)) (hc : XU P fid as0 x) (hO : aL H0 H L)
    (h : ∀ H', aL H0 H' L → RWs P tt N ops (aJ (i + 1) n) (T.bO (cB ops i) ([], x)) H' K) : RWs P tt N ops (aJ i n) T H K :=
  QC (Q := fun r H' => r = x ∧ H' = H) hs hd (Or.inr (by simpa using hc H)) fun _ H' ⟨e, e'⟩ => e ▸ e' ▸ h H hO

def JL (x y : ByteArray) : Int := Go.Lib.compareBytes x.data.toList y.data.toList

theorem XB {f : FuncId} {fn : Func} (hf : P.funcs[f]? = some fn) (hname : (fn.name == "runtime.NumGoroutine") = false) (hb : fn.body.isNone = true) (hn : Extern.findNext fn = none) (he : Extern.find fn = some Extern.BytealgCompare.compare) (x y : ByteArray) : XU P f [wJ x, wJ y] (pH .i64 (JL x y)) := by
  intro H g w vs hs hl hr
  match vs, hl with
  | ⟨[a, b]⟩, _ =>
    have h1 := (hr 0 _ a rfl rfl).kX
    have h2 := (hr 1 _ b rfl rfl).kX
    subst h1; subst h2
    refine ⟨_, _, ?_, .lit (.int .i64 (JL x y)) rfl, rfl, rfl⟩
    rw [run_callFunc_extern hf hname hb hn he]
    have := Go.Lib.run_compareString (P := P) x y w
    change (Result.andThen (Sem.run P (Extern.BytealgCompare.compare #[.string x, .string y]) w) _) = _
    rw [this]; rfl

section room
variable {ops : Array Oper} {K : Env → aR → Prop} {i n : Nat}
def QL (tt : TT) (N : Nat) (ops : Array Oper) (T : Env) (i : Nat) : Option (Int × Int × Nat × Nat) := match fY N ops i with
  | some (.makeSlice t l c) => match bY T [] l, bY T [] c, tt t with
    | some (.lit (.int _ z)), some (.lit (.int _ n)), some ⟨.slice e, _, _, _⟩ => match tt e with
      | some te => some (z, n, te.size, te.bytes)
      | none => none
    | _, _, _ => none
  | _ => none

theorem YL {H0 : Frame} {L : List (Nat × Nat × List V)} (k by' : Nat) (m : Int) (hs : aJ i n = i :: aJ (i + 1) n) (hd : QL tt N ops T i = some (0, m, k, by')) (hc : 0 ≤ m ∧ (by' : Int) * m ≤ 281474976710656 ∧ m ≤ 9223372036854775807) (hO : aL H0 H L)
    (h : ∀ lo H', aL H0 H' (L ++ [(lo, k, [])]) → RWs P tt N ops (aJ (i + 1) n) (T.bO (cB ops i) ([], .msl k lo 0 0)) H' K) : RWs P tt N ops (aJ i n) T H K := by
  unfold QL at hd
  split at hd
  · rename_i t l c hp
    split at hd
    · rename_i k1 z k2 m' e _ _ _ hl hcc ht
      split at hd
      · rename_i te hte
        simp at hd; obtain ⟨rfl, rfl, rfl, rfl⟩ := hd
        exact tS hs hp ⟨k1, k2, _, e, _, _, _, te, hl, hcc, ht, hte, hc.1, hc.2.1, hc.2.2, h _ _ (hO.new te.size [])⟩
      · simp at hd
    · simp at hd
  · simp at hd

def QK (tt : TT) (N : Nat) (ops : Array Oper) (T : Env) (i : Nat) : Option (Int × Nat × Nat) := match fY N ops i with
  | some (.call ⟨.builtin .append, args, tys⟩) => match gZ T [] args.toList, tys[0]?, tys[1]?, tys[2]? with
    | some [.sl true 0 _, .lit (.int _ n)], some t, some t', none => match tt t, tt t' with
      | some ⟨.slice e, _, _, _⟩, some ⟨.int _, _, _, _⟩ => match tt e with
        | some te => match pN te.zero te.size with
          | true => some (n, te.size, te.bytes)
          | false => none
        | none => none
      | _, _ => none
    | _, _, _, _ => none
  | _ => none

theorem RL {H0 : Frame} {L : List (Nat × Nat × List V)} (k by' : Nat) (m : Int) (hs : aJ i n = i :: aJ (i + 1) n) (hd : QK tt N ops T i = some (m, k, by')) (hc : 0 ≤ m ∧ m.toNat * by' ≤ 140737488355328 ∧ m ≤ 9223372036854775807) (hO : aL H0 H L)
    (h : ∀ lo H', aL H0 H' (L ++ [(lo, k, [])]) → RWs P tt N ops (aJ (i + 1) n) (T.bO (cB ops i) ([], .msl k lo 0 m.toNat)) H' K) : RWs P tt N ops (aJ i n) T H K := by
  unfold QK at hd
  split at hd
  · rename_i args tys hp
    split at hd
    · rename_i el kk n' t t' hev h0 h1 h2
      split at hd
      · rename_i e _ _ _ ik _ _ _ ht ht'
        split at hd
        · rename_i te hte
          split at hd
          · rename_i hz
            simp at hd; obtain ⟨rfl, rfl, rfl⟩ := hd
            exact tS hs hp (.inl ⟨el, kk, _, t, t', e, _, _, _, ik, _, _, _, te, hev, MQ h0 h1 h2, ht, ht', hte, hz, hc.1, hc.2.1, hc.2.2, h _ _ (hO.new te.size [])⟩)
          · simp at hd
        · simp at hd
      · simp at hd
    · simp at hd
  · simp at hd

end room
def XT (P : Program) (f : FuncId) (lo k : Nat) (es : List V) (args : List V) (r : Nat → V) (es' : List V) : Prop :=
  ∀ H, H[lo]? = some (.vec k es) → lM P f args H fun x H' => ∃ lo', x = r lo' ∧ aL ⟨H, [lo], []⟩ H' [(lo', k, es')]

theorem aL.aAJ {F : Frame} {H' : aR} {L : List (Nat × Nat × List V)} (h : aL F H L) (q : Nat) {lo lo' k : Nat} {es es' : List V} (hq : L[q]? = some (lo, k, es)) (ho : aL ⟨H, [lo], []⟩ H' [(lo', k, es')]) : aL F H' (L.set q (lo', k, es')) := by
  have hx := ho.ext
  have hlo' : lo' = lo ∨ H.length ≤ lo' := by
    rcases (ho.mem 0 lo' k es' rfl).1 with h1 | h1
    · exact .inr h1
    · exact .inl (by simpa using h1)
  have far : ∀ p : Nat, p < H.length → p ≠ lo → p ≠ lo' := by
    intro p hp hne he
    rcases hlo' with h1 | h1 <;> omega
  refine ⟨h.ext.UW ⟨hx.1, hx.2⟩ (h.mem q lo k es hq).1, fun a b p q' ha hb hab => ?_, fun j lo2 k' e' hj => ?_, fun j p hj => ?_, fun a b p q' ha hb => ?_, h.gn⟩
  · rcases mT ha with ⟨n1, a1⟩ | ⟨e1, e2⟩ <;> rcases mT hb with ⟨n2, b1⟩ | ⟨e3, e4⟩
    · exact h.ne a b p q' a1 b1 hab
    · rw [e4]; exact far p.1 (h.lt a1) (h.ne a q p (lo, k, es) a1 hq n1)
    · rw [e2]; exact (far q'.1 (h.lt b1) (h.ne b q q' (lo, k, es) b1 hq n2)).symm
    · exact absurd (e1.trans e3.symm) hab
  · rcases mT hj with ⟨n1, hj⟩ | ⟨rfl, hp⟩
    · obtain ⟨h1, h2⟩ := h.mem j lo2 k' e' hj
      refine ⟨h1, ?_⟩
      have hne := h.ne _ _ _ _ hq hj (Ne.symm n1)
      exact (hx.2 lo2 (List.getElem?_eq_some_iff.1 h2).1 (by simpa using hne.symm)).trans h2
    · cases hp
      refine ⟨?_, (ho.mem 0 _ _ _ rfl).2⟩
      rcases hlo' with h1 | h1
      · rw [h1]; exact (h.mem j _ _ _ hq).1
      · exact .inl (Nat.le_trans h.ext.1 h1)
  · obtain ⟨h1, h2⟩ := h.gm j p hj
    exact ⟨h1, (hx.2 p.1 (List.getElem?_eq_some_iff.1 h2).1 (by simpa using h.gl _ _ _ _ hj hq)).trans h2⟩
  · rcases mT hb with ⟨_, hb⟩ | ⟨_, rfl⟩
    · exact h.gl a b p q' ha hb
    · exact far p.1 (h.glt ha) (h.gl a q p _ ha hq)

theorem YI {ops : Array Oper} {K : Env → aR → Prop} {i n : Nat} {H0 : Frame} {L : List (Nat × Nat × List V)} {L' : Nat → List (Nat × Nat × List V)} (q lo k : Nat) (es es' : List V) (fid : Nat) (as0 : List V) (x : Nat → V) (hs : aJ i n = i :: aJ (i + 1) n) (hd : mU N ops T i = some (fid, as0)) (hc : XT P fid lo k es as0 x es') (hO : aL H0 H L)
    (hq : L[q]? = some (lo, k, es)) (hl : ∀ lo', L' lo' = L.set q (lo', k, es')) (h : ∀ lo' H', aL H0 H' (L' lo') → RWs P tt N ops (aJ (i + 1) n) (T.bO (cB ops i) ([], x lo')) H' K) : RWs P tt N ops (aJ i n) T H K :=
  DD hs hd (hc H (hO.at q hq)) fun _ H' ⟨lo', e, ho⟩ => e ▸ h lo' H' (hl lo' ▸ hO.aAJ q hq ho)

section drawn
variable {ops : Array Oper} {K : PE → aR → Prop} {i n : Nat} {T : PE} {pl : Oper → Bool}
theorem ZC {H0 : Frame} {L : List (Nat × Nat × List V)} {L' : Nat → List (Nat × Nat × List V)} (k : Nat) (es : List V) (fid : Nat) (as0 : List V) (x : Nat → V) (hs : aJ i n = i :: aJ (i + 1) n) (hd : mU N ops (lift T) i = some (fid, as0)) (hc : EY P fid as0 x k es) (hO : aL H0 H L)
    (hl : ∀ lo, L' lo = L ++ [(lo, k, es)]) (h : ∀ lo H', aL H0 H' (L' lo) → RD P tt N pl ops (aJ (i + 1) n) (T.bO (cB ops i) (x lo)) H' K) (hz : sU pl ops i = true := by kernel_rfl) : RD P tt N pl ops (aJ i n) T H K :=
  MI hs hd (hc H) (fun _ _ _ ⟨_, _, hO'⟩ => hO'.out) (fun _ H' ⟨lo, e, hO'⟩ => e ▸ h lo H' (hl lo ▸ hO.join hO')) hz

end drawn
end Go.Abs
namespace Go.Abs
open Go
variable {P : Program} {tt : TT} {ro : Option Nat} {N : Nat} {T : Env} {H : aR} {ds : List Nat} {Q : Exit → Env → aR → List Nat → Prop}
theorem SR.ZS {g : Gh} {w : World} (h : SR g w H) {l ke : Nat} {y : V} (hl : H[l]? = some (.vec ke [y])) :
    ∃ g', SR g' w (H.set l .dead) ∧ Ext g w g' w ∧ ∀ v, Rep g w (.lp l 0 0) v → Rep g' w (.rp y) v := by
  obtain ⟨s1, s2, s3⟩ := h.freeze hl
  refine ⟨_, s1, s2, ?_⟩
  intro v hv
  obtain ⟨hln, rfl⟩ := hv.lpE
  have hk := h.kk l ke [y] hl
  obtain ⟨hc, _, _⟩ := h.vec l ke [y] hl
  have hm : Rep g w (.msl ke l 0 1) (.slice (some ⟨g.blk l, g.off l + 0 * g.k l, none⟩) 1 (g.cap l - 0)) := hk ▸ Rep.msl l 0 1 hln (by simpa using hc)
  have h3 := s3 _ hm
  cases h3 with
  | sl n el b o k cap c h1 h2 h4 h5 h6 h7 =>
    have a1 := h1 0 (Nat.lt_succ_self 0)
    have a2 := h2 0 (Nat.lt_succ_self 0)
    have a3 := h4 0 (Nat.lt_succ_self 0)
    refine .rp y (c 0) _ _ (by simpa using a1) (by simpa using a3) (fun j hj => ?_)
    have := h5 0 (Nat.lt_succ_self 0) j (by rw [← a2]; exact hj)
    simpa using this

theorem DZ {H0 : Frame} {L : List (Nat × Nat × List V)} {c : Code} {l : List (Nat × V)} (i q t k lo : Nat) (y : V) (L' : List (Nat × Nat × List V)) (hO : aL H0 H L) (hi : l[i]? = some (t, .lp lo 0 0)) (hL : L[q]? = some (lo, k, [y]))
    (hl : L' = L.eraseIdx q) (next : ∀ H', aL H0 H' L' → AWP P ro N c (Env.ofL (l.set i (t, .rp y))) H' ds Q) : AWP P ro N c (Env.ofL l) H ds Q := by
  intro g w a R hg hr
  obtain ⟨g1, s1, s2, s3⟩ := hg.sr.ZS (hO.at q hL)
  refine next _ (hO.kill q hL hl) _ w a R (hg.step s2 s1 ?_ rfl rfl) (fun e T' H' ds' g' w' a' q hg' hx => hr e T' H' ds' g' w' a' q hg' (s2.trans hx))
  have htr := hg.tr.ext s2
  intro u c' x hu
  rcases AV hi hu with h | ⟨rfl, rfl, h⟩
  · exact htr u c' x h
  · obtain ⟨v, hv, hrep⟩ := (hg.tr u [] _ h).1 (by simp [cC])
    exact ⟨fun _ => ⟨v, hv, s3 v hrep⟩, fun hnc => absurd (by simp [cC]) hnc⟩

def rnd {S R : Type} (f : S → Option (S ⊕ R)) : S ⊕ R → Option ((S ⊕ R) × Bool)
  | .inl s => (f s).bind fun o => some (o, o.isLeft)
  | .inr _ => none

theorem aAe {S R : Type} {f : S → Option (S ⊕ R)} {st st' : S ⊕ R} {r : Bool} (h : rnd f st = some (st', r)) : ∃ s, st = .inl s ∧ f s = some st' ∧ r = st'.isLeft := by
  cases st with
  | inr s => cases h
  | inl s =>
    simp only [rnd] at h
    cases hf : f s with
    | none => rw [hf] at h; cases h
    | some o =>
      rw [hf] at h
      simp at h
      exact ⟨s, rfl, by rw [← h.1]; exact hf, by rw [← h.1]; exact h.2.symm⟩

theorem FP {b : Nat} {args : List V} {Q : V → aR → Prop} (h : BE P b args H Q) : yI P (yv b) args H Q := h

theorem FL {lL : Nat} {s : cQ} {G : Gs} {L : List (Nat × Nat × List V)} (h : GOk H ((lL, s) :: (up L ++ G))) : ∃ E1, E1 = List.map (fun p : Nat × cQ => p.1) ((lL, s) :: (up L ++ G)) ∧ aL ⟨H, E1, (lL, s) :: G⟩ H L := by
  refine ⟨_, rfl, ?_⟩
  have h2 : aL ⟨H, ((lL, s) :: (up L ++ G)).map (·.1), up L ++ ((lL, s) :: G)⟩ H [] := (aL.DX h).RZ (List.perm_middle.symm)
  exact h2.take

theorem oX {H0 : aR} {E1 : List Nat} {G0 G : Gs} {lL : Nat} {o1 o : cQ} {L : List (Nat × Nat × List V)} (hO : aL ⟨H0, E1, (lL, o1) :: G⟩ H L) (hE : E1 = List.map (fun p : Nat × cQ => p.1) G0) (ho : o1 = o) (s' : cQ) :
    H[lL]? = some o ∧ GStep H0 G0 (H.set lL s') ((lL, s') :: (up L ++ G)) := by
  subst hE; subst ho
  exact ⟨(hO.gm 0 _ rfl).2, VZ hO s'⟩

theorem mF.toV {fid : Nat} {ys cs zs : List V} {lo k : Nat} {es es' : List V} {r : V} {σ : Type} {I : σ → Gs → Prop} {s s' : σ} (h : mF P fid lo k es es' (ys ++ zs ++ cs) r)
    (hI : ∀ G, I s G → ∃ A B, G = A ++ (lo, .vec k es) :: B ∧ I s' (A ++ (lo, .vec k es') :: B)) : CI P (.fn (.func fid) ys cs) I s zs s' r := by
  intro H G hi hg
  obtain ⟨A, B, rfl, hi'⟩ := hI G hi
  refine Or.inl ?_
  have hl : H[lo]? = some (.vec k es) := hg.m A.length (lo, .vec k es) (by simp)
  refine (h H hl).mono ?_
  rintro x H' ⟨rfl, hx, hl', _⟩
  refine ⟨rfl, _, hi', ⟨⟨fun i p hp => ?_, ?_⟩, ⟨hx.1, fun l hl he => ?_⟩, ?_⟩⟩
  · by_cases hpl : p.1 = lo
    · have hm : p ∈ A ++ (lo, cQ.vec k es') :: B := List.mem_of_getElem? hp
      have hnd := zG.1 hg.n
      simp only [List.map_append, List.map_cons, List.nodup_append, List.nodup_cons, List.mem_map, List.mem_cons] at hnd
      rcases List.mem_append.1 hm with h1 | h1
      · exact absurd hpl (fun e => hnd.2.2 p.1 ⟨p, h1, rfl⟩ lo (.inl rfl) e)
      · rcases List.mem_cons.1 h1 with rfl | h1
        · exact hl'
        · exact absurd ⟨p, h1, hpl⟩ hnd.2.1.1
    · have hm : p ∈ A ++ (lo, cQ.vec k es) :: B := by
        rcases List.mem_append.1 (List.mem_of_getElem? hp) with h1 | h1
        · exact List.mem_append.2 (.inl h1)
        · rcases List.mem_cons.1 h1 with rfl | h1
          · exact absurd rfl hpl
          · exact List.mem_append.2 (.inr (List.mem_cons_of_mem _ h1))
      obtain ⟨j, hj⟩ := tX hm
      have hold := hg.m j p hj
      exact (hx.2 p.1 (List.getElem?_eq_some_iff.1 hold).1 (by simpa using hpl)).trans hold
  · refine zG.2 ?_
    have := zG.1 hg.n
    simpa using this
  · refine hx.2 l hl ?_
    intro hm
    simp only [List.mem_singleton] at hm
    subst hm
    exact he (by simp)
  · intro p hp
    refine .inl ?_
    rcases List.mem_append.1 hp with h1 | h1
    · exact List.mem_map.2 ⟨p, List.mem_append.2 (.inl h1), rfl⟩
    · rcases List.mem_cons.1 h1 with rfl | h1
      · simp
      · exact List.mem_map.2 ⟨p, List.mem_append.2 (.inr (List.mem_cons_of_mem _ h1)), rfl⟩

theorem aAH {α β : Type} {x : Option (α × β)} {s : β} {r : α} (h : (x.bind fun o => some (o.2, o.1)) = some (s, r)) : x = some (r, s) := by
  cases x with
  | none => cases h
  | some o => simp at h; rw [← h.1, ← h.2]

section rules
variable {ops : Array Oper} {i n : Nat}
theorem HM {σ : Type} {I : σ → Gs → Prop} {H0 : aR} {E : List Nat} {G : Gs} {L L' : List (Nat × Nat × List V)} {s' : σ} {H' : aR} (hO : aL ⟨H0, E, G⟩ H L) (hI' : ∀ G', I s' G' → G' = up L' ++ G) (h : RP I s' H (up L ++ G) H') : aL ⟨H0, E, G⟩ H' L' := by
  obtain ⟨G', hi, hst⟩ := h
  have := hI' G' hi
  subst this
  exact (hO.GL.SV hst).take

theorem WN {K : Env → aR → Prop} {σ : Type} (I : σ → Gs → Prop) {H0 : aR} {E : List Nat} {G : Gs} {L : List (Nat × Nat × List V)} (L' : List (Nat × Nat × List V)) (s s' : σ) (fid : Nat) (as0 : List V) (x : V) (hs : aJ i n = i :: aJ (i + 1) n) (hd : mU N ops T i = some (fid, as0))
    (hc : sM P fid I s as0 s' x) (hO : aL ⟨H0, E, G⟩ H L) (hI : I s (up L ++ G)) (hI' : ∀ G', I s' G' → G' = up L' ++ G) (h : ∀ H', aL ⟨H0, E, G⟩ H' L' → RWs P tt N ops (aJ (i + 1) n) (T.bO (cB ops i) ([], x)) H' K) : RWs P tt N ops (aJ i n) T H K :=
  DD hs hd (hc H _ hI hO.GL.gok) fun _ H' ⟨e, hp⟩ => e ▸ h H' (HM hO hI' hp)

theorem ZT {pl : Oper → Bool} {T : PE} {K : PE → aR → Prop} {σ : Type} (I : σ → Gs → Prop) {H0 : aR} {E : List Nat} {G : Gs} {L : List (Nat × Nat × List V)} (L' : List (Nat × Nat × List V)) (s s' : σ) (fid : Nat) (as0 : List V) (x : V) (hs : aJ i n = i :: aJ (i + 1) n) (hd : mU N ops (lift T) i = some (fid, as0))
    (hc : sM P fid I s as0 s' x) (hO : aL ⟨H0, E, G⟩ H L) (hI : I s (up L ++ G)) (hI' : ∀ G', I s' G' → G' = up L' ++ G) (h : ∀ H', aL ⟨H0, E, G⟩ H' L' → RD P tt N pl ops (aJ (i + 1) n) (T.bO (cB ops i) x) H' K) (hq : qH pl ops i = true := by kernel_rfl) : RD P tt N pl ops (aJ i n) T H K :=
  MI hs hd (hc H _ hI hO.GL.gok) (fun h => by rw [hq] at h; cases h) (fun _ H' ⟨e, hp⟩ => e ▸ h H' (HM hO hI' hp)) (by simp [sU, hq])

end rules
theorem SR.weaken {g : Gh} {w : World} (h : SR g w H) {l k i : Nat} {es : List V} {y y' : V} (hl : H[l]? = some (.vec k es)) (hy : es[i]? = some y) (hn : dS y' = true) (hsub : ∀ v, Rep g w y v → Rep g w y' v) : SR g w (H.set l (.vec k (es.set i y'))) := by
  have hlt : l < H.length := (List.getElem?_eq_some_iff.1 hl).1
  have hat : ∀ (l' : Nat) (ob : cQ), (H.set l (.vec k (es.set i y')))[l']? = some ob → (l' = l ∧ ob = .vec k (es.set i y')) ∨ (l' ≠ l ∧ H[l']? = some ob) := by
    intro l' ob hl'
    rw [List.getElem?_set] at hl'
    split at hl'
    · rename_i heq
      simp [heq ▸ hlt] at hl'
      exact .inl ⟨heq.symm, hl'.symm⟩
    · rename_i hne; exact .inr ⟨fun e => hne e.symm, hl'⟩
  have hat2 : ∀ (l' : Nat) (k' : Nat) (es' : List V), (H.set l (.vec k (es.set i y')))[l']? = some (.vec k' es') → ∃ es0, H[l']? = some (.vec k' es0) ∧ es0.length = es'.length := by
    intro l' k' es' hl'
    rcases hat l' _ hl' with ⟨rfl, he⟩ | ⟨_, h2⟩
    · cases he; exact ⟨es, hl, by simp⟩
    · exact ⟨es', h2, rfl⟩
  refine { len := by simp [h.len], fxc := h.fxc, nt := ?_, kk := ?_, vec := ?_, raw := ?_, disj := ?_, rawd := ?_ }
  · intro l' k' es' hl' x hx
    rcases hat l' _ hl' with ⟨rfl, he⟩ | ⟨_, h2⟩
    · cases he
      rcases List.mem_or_eq_of_mem_set hx with h1 | h1
      · exact h.nt _ _ _ hl x h1
      · rw [h1]; exact hn
    · exact h.nt _ _ _ h2 x hx
  · intro l' k' es' hl'
    obtain ⟨es0, h2, _⟩ := hat2 _ _ _ hl'
    exact h.kk _ _ _ h2
  · intro l' k' es' hl'
    rcases hat l' _ hl' with ⟨rfl, he⟩ | ⟨_, h2⟩
    · cases he
      obtain ⟨a1, ⟨c, hc⟩, a3⟩ := h.vec _ _ _ hl
      refine ⟨by simpa using a1, ⟨c, fun j x hx => ?_⟩, a3⟩
      rw [List.getElem?_set] at hx
      split at hx
      · rename_i hij
        split at hx
        · simp at hx; subst hx; subst hij
          exact ⟨hsub _ (hc _ _ hy).1, (hc _ _ hy).2⟩
        · cases hx
      · exact hc j x hx
    · exact h.vec _ _ _ h2
  · intro l' s hl'
    rcases hat l' _ hl' with ⟨_, he⟩ | ⟨_, h2⟩
    · cases he
    · exact h.raw _ _ h2
  · intro a b k1 k2 e1 e2 ha hb hne j j' hj hj'
    obtain ⟨x1, y1, _⟩ := hat2 _ _ _ ha
    obtain ⟨x2, y2, _⟩ := hat2 _ _ _ hb
    exact h.disj a b k1 k2 x1 x2 y1 y2 hne j j' hj hj'
  · intro a b s1 s2 ha hb hne
    rcases hat a _ ha with ⟨_, he⟩ | ⟨_, h1⟩
    · cases he
    · rcases hat b _ hb with ⟨_, he⟩ | ⟨_, h2⟩
      · cases he
      · exact h.rawd a b s1 s2 h1 h2 hne

theorem gS.weaken {T : Env} {l k i : Nat} {es : List V} {y y' : V} (hl : H[l]? = some (.vec k es)) (hy : es[i]? = some y) (hn : dS y' = true) (hs : aS y y') : gS N T H T (H.set l (.vec k (es.set i y'))) := fun g w _ _ hg =>
  ⟨g, ⟨hg.sr.weaken hl hy hn (fun v => hs g w v), hg.tr, hg.df, hg.dl, hg.sz⟩, Ext.refl g w⟩

theorem NA {e : Exit} {T : Env} {H0 : Frame} {L : List (Nat × Nat × List V)} (q lo k : Nat) (y y' : V) (L' : List (Nat × Nat × List V)) (hO : aL H0 H L) (hL : L[q]? = some (lo, k, [y])) (hn : dS y' = true) (hs : aS y y') (hl : L' = L.set q (lo, k, [y']))
    (h : ∀ H', aL H0 H' L' → Cl N Q e T H' ds) : Cl N Q e T H ds := by
  refine AZ (gS.weaken (hO.at q hL) (i := 0) rfl hn hs) (h _ ?_)
  subst hl
  exact hO.put q hL [y']

theorem aAw {ops : Array Oper} {K : Env → aR → Prop} {i n : Nat} {H0 : Frame} {L : List (Nat × Nat × List V)} (t k : Nat) (el : Nat → V) (hs : aJ i n = i :: aJ (i + 1) n) (hO : aL H0 H L) (ht : T t = some ([], .sl true 0 el))
    (h : ∀ lo H', aL H0 H' (L ++ [(lo, k, [])]) → RWs P tt N ops (aJ i n) (T.set t ([], .msl k lo 0 0)) H' K) : RWs P tt N ops (aJ i n) T H K := by
  refine QM (by rw [hs]; simp) (T' := T.set t ([], .msl k H.length 0 0)) (H' := H ++ [.vec k []]) ?_ (h _ _ (hO.new k []))
  intro g w a ds hg
  have hm := hg.sr.more (b := w.heap.size) (o := 0) (k := k) (cap := 0) (xs := []) (by simp) (by simp) (fun _ => undef) (by simp) (by simp) (fun _ _ _ _ _ _ _ hj => by simp at hj)
  have hx : Ext g w (g.more w.heap.size 0 k 0) w := (Ext.refl g w).more (.inl (Nat.le_refl _))
  refine ⟨_, hg.step hx hm ?_ rfl rfl, hx⟩
  have htr := hg.tr.ext hx
  intro u c' x hu
  simp only [Env.set] at hu
  split at hu
  · rename_i hb
    have := Nat.eq_of_beq_eq_true hb
    subst this
    simp at hu; obtain ⟨rfl, rfl⟩ := hu
    obtain ⟨v, hv, hrep⟩ := (hg.tr u [] _ ht).1 (by simp [cC])
    obtain ⟨a0, cap, rfl, hn, hz⟩ := hrep.slE
    have hc0 := hz rfl
    subst hc0
    refine ⟨fun _ => ⟨_, hv, ?_⟩, fun hnc => absurd (by simp [cC]) hnc⟩
    have := Rep.msl0 (g := g.more w.heap.size 0 k 0) (w := w) g.n 0 a0 (Nat.lt_succ_self _) (by simp [Gh.more, cU])
    rw [hg.sr.len]
    simpa [Gh.more, cU] using this
  · split at hu
    · rename_i y hy
      split at hu
      · cases hu
      · simp at hu; subst hu
        exact htr u c' x hy
    · cases hu

theorem CS {α : Type} [Inhabited α] {e : α → V} {H0 : Frame} {L : List (Nat × Nat × List V)} {c : Code} (xs : List α) (q q2 k k2 lo lo2 n : Nat) (L' : List (Nat × Nat × List V)) (hO : aL H0 H L) (hL : L[q]? = some (lo, k, [.msl k2 lo2 0 n])) (hL2 : L[q2]? = some (lo2, k2, xs.map e)) (hn : n = xs.length)
    (hne : (Nat.beq lo lo2) = false ∨ q ≠ q2) (hl : L' = (L.set q (lo, k, [eL e xs])).eraseIdx q2) (next : ∀ H', aL H0 H' L' → AWP P ro N c T H' ds Q) : AWP P ro N c T H ds Q := by
  subst hn
  have hlo : lo2 ≠ lo := by
    rcases hne with h | h
    · intro he; subst he; simp at h
    · exact fun he => hO.ne q q2 _ _ hL hL2 h he.symm
  have hqq : q2 ≠ q := by
    rintro rfl
    rw [hL] at hL2
    simp at hL2
    exact hlo hL2.1.symm
  have h1 := hO.at q hL
  have h2 := hO.at q2 hL2
  intro g w a R hg hr
  obtain ⟨s1, s2, s3⟩ := hg.sr.freeze h2
  have h1' : (H.set lo2 .dead)[lo]? = some (.vec k [.msl k2 lo2 0 xs.length]) := by rw [List.getElem?_set_ne hlo]; exact h1
  have s4 := s1.weaken h1' (i := 0) rfl (y' := eL e xs) rfl (fun v hv => by
    have hv' : Rep g w (.msl k2 lo2 0 xs.length) v := by
      obtain ⟨a1, rfl, ⟨a3, rfl⟩ | ⟨a3, a4, a, rfl⟩⟩ := hv.XC
      · exact .msl (g := g) _ _ _ a1 a3
      · rw [a3]; exact .msl0 (g := g) _ _ a a1 a4
    have h3 := s3 v (by simpa using hv')
    have := h3.FC (el' := fun i => e (xs.getD i default)) fun j hj => by
      have hj' : j < xs.length := by simpa using hj
      simp [List.getD_eq_getElem?_getD, hj']
    simpa [eL] using this)
  have hO1 := (hO.kill q2 hL2 rfl)
  have hq' : ∃ q', (L.eraseIdx q2)[q']? = some (lo, k, [.msl k2 lo2 0 xs.length]) ∧ (L.eraseIdx q2).set q' (lo, k, [eL e xs]) = (L.set q (lo, k, [eL e xs])).eraseIdx q2 := by
    by_cases hlt : q < q2
    · refine ⟨q, by rw [List.getElem?_eraseIdx_of_lt hlt]; exact hL, ?_⟩
      rw [List.eraseIdx_set_gt hlt]
    · refine ⟨q - 1, ?_, ?_⟩
      · rw [List.getElem?_eraseIdx_of_ge (by omega), show q - 1 + 1 = q by omega]; exact hL
      · rw [List.eraseIdx_set_lt (by omega)]
  obtain ⟨q', hq1, hq2⟩ := hq'
  have hO2 := hO1.put q' hq1 [eL e xs]
  rw [hq2, ← hl] at hO2
  refine next _ hO2 _ w a R (hg.step s2 s4 (hg.tr.ext s2) rfl rfl) (fun e T' H' ds' g' w' a' q hg' hx => hr e T' H' ds' g' w' a' q hg' (s2.trans hx))

theorem wQ {H0 : Frame} {L : List (Nat × Nat × List V)} {T : Env} {a t k lo : Nat} {x y : V} {r : List ResultVar} {xs : List V} (q : Nat) (hO : aL H0 H L) (hL : L[q]? = some (lo, k, [y])) (ht : T a = some ([], .lp lo 0 0)) (hty : (tt t).isSome = true) (hx : CN tt t y 0 = some x) (hr : xV tt T H r xs) :
    xV tt T H (.cell a t :: r) (x :: xs) := ⟨⟨lo, 0, 0, k, [y], y, ht, hO.at q hL, rfl, Option.isSome_iff_exists.1 hty, hx⟩, hr⟩

theorem DN {T : Env} : xV tt T H [] [] := trivial

theorem QM0 {fn : Func} {Q : V → aR → Prop} {T : Env} {e : Exit} {rs : List ResultVar} {xs : List V} {x : V} (he : e = .normal ∨ e = .ret) (hrs : fn.results.toList = rs) (hR : xV tt T H rs xs) (hx : GJ xs = x) (hq : Q x H) : LO tt fn (fun r H => ∃ r', aS r r' ∧ Q r' H) e T H [] := by
  subst hx
  rcases he with rfl | rfl <;> exact ⟨List.nodup_nil, by simp, xs, hrs ▸ hR, _, aS.refl _, hq⟩

theorem QM1 {fn : Func} {Q : V → aR → Prop} {T : Env} {e : Exit} {rs : List ResultVar} {xs : List V} {x : V} {lD : Nat} (he : e = .normal ∨ e = .ret) (hD : H[lD]? = some (.raw AL)) (hrs : fn.results.toList = rs) (hR : xV tt T (H.set lD .dead) rs xs) (hx : GJ xs = x) (hq : Q x (H.set lD .dead)) : LO tt fn (fun r H => ∃ r', aS r r' ∧ Q r' H) e T H [lD] := by
  subst hx
  rcases he with rfl | rfl <;> exact ⟨by simp, by simpa using hD, xs, hrs ▸ hR, _, aS.refl _, hq⟩

end Go.Abs
namespace Go.Abs
open Go Go.RowKit
variable {P : Program} {tt : TT} {ro : Option Nat} {N : Nat} {T : Env} {H : aR} {ds : List Nat} {Q : Exit → Env → aR → List Nat → Prop} {c : Code} {e : Exit}
theorem dL (l : List (Nat × V)) (next : Cl N Q e (Env.ofL l) H ds) (h : l.map (fun p => T p.1) = l.map (fun p => some ([], p.2)) := by kernel_rfl) : Cl N Q e T H ds := cT (.eq h) next

theorem bK {X : Env → aR → List Nat → Prop} (l : List (Nat × V)) (next : X (Env.ofL l) H ds) (h : l.map (fun p => T p.1) = l.map (fun p => some ([], p.2)) := by kernel_rfl) : Cl N (sN X Q) .normal T H ds := cT (.eq h) (aI next)

theorem dJ (l : List (Nat × V)) (next : AWP P ro N c (Env.ofL l) H ds Q) (h : l.map (fun p => T p.1) = l.map (fun p => some ([], p.2)) := by kernel_rfl) : AWP P ro N c T H ds Q := bD (.eq h) next

theorem aP (h : AWP P ro N c.l T H ds (sN (fun T H ds => AWP P ro N c.r T H ds Q) Q)) (hk : c.kind = 1 := by kernel_rfl) : AWP P ro N c T H ds Q := LS hk h

theorem bM (h : Cl N Q .ret T H ds) (hk : c.kind = 6 := by kernel_rfl) : AWP P ro N c T H ds Q := HB (aAU hk h)

theorem bP (h : Cl N Q .normal T H ds) (hk : c.kind = 0 := by kernel_rfl) : AWP P ro N c T H ds Q := HB (aAb hk h)

theorem eR (id : Nat) (h : Cl N Q (.exit id) T H ds) (hk : c.kind = 5 := by kernel_rfl) (hi : c.blk = id := by kernel_rfl) : AWP P ro N c T H ds Q := HB (aAi hk hi h)

theorem bU (id : Nat) (h : AWP P ro N c.b T H ds (xP id Q)) (hk : c.kind = 3 := by kernel_rfl) (hi : c.blk = id := by kernel_rfl) : AWP P ro N c T H ds Q := YF hk hi h

theorem mR (b : Bool) (h1 : b = true → AWP P ro N c.t T H ds Q) (h2 : b = false → AWP P ro N c.e T H ds Q) (hk : c.kind = 2 := by kernel_rfl) (hc : bY T [] c.cnd = some (.lit (.bool b)) := by kernel_rfl) : AWP P ro N c T H ds Q := UB hk hc h1 h2

section region
variable {ops : Array Oper} {K : Env → aR → Prop} {i n : Nat}
theorem bE (h : K (yQ tt ops (aJ i n) T) H) (hc : yP tt N ops (aJ i n) T = some [] := by kernel_rfl) : RWs P tt N ops (aJ i n) T H K := LK hc trivial h

theorem bN (j : Nat) (h : RWs P tt N ops (aJ j n) (yQ tt ops (aJ i j) T) H K) (hs : aJ i n = aJ i j ++ aJ j n := by kernel_rfl) (hc : yP tt N ops (aJ i j) T = some [] := by kernel_rfl) : RWs P tt N ops (aJ i n) T H K := UG j hs hc trivial h

theorem cL (h : K T H) (hs : aJ i n = [] := by kernel_rfl) : RWs P tt N ops (aJ i n) T H K := aAM hs h

theorem aA1 {H0 : Frame} {L : List (Nat × Nat × List V)} (fid : Nat) (as0 : List V) (x : V) (hc : cF P fid as0 x) (hO : aL H0 H L)
    (h : ∀ H', aL H0 H' L → RWs P tt N ops (aJ (i + 1) n) (T.bO (cB ops i) ([], x)) H' K) (hs : aJ i n = i :: aJ (i + 1) n := by kernel_rfl) (hd : uZ N ops T i = some ([], fid, as0) := by kernel_rfl) : RWs P tt N ops (aJ i n) T H K :=
  tO [] fid as0 x true hs hd rfl (fun _ => hc) hO h

end region
section drawn
variable {ops : Array Oper} {K : PE → aR → Prop} {i n : Nat} {T : PE} {pl : Oper → Bool}
theorem oO (h : K (yG tt ops (aJ i n) T) H) (hc : xY tt N ops (aJ i n) T = some [] := by kernel_rfl) : RD P tt N pl ops (aJ i n) T H K := LL hc trivial h

theorem vA (j : Nat) (h : RD P tt N pl ops (aJ j n) (yG tt ops (aJ i j) T) H K) (hs : aJ i n = aJ i j ++ aJ j n := by kernel_rfl) (hc : xY tt N ops (aJ i j) T = some [] := by kernel_rfl) : RD P tt N pl ops (aJ i n) T H K := TQ j hs hc trivial h

end drawn
end Go.Abs
namespace Go.Abs
open Go Go.RowKit
def aAo (t : Nat) : List Nat → Bool
  | [] => false
  | k :: r => match Nat.beq t k with
    | true => true
    | false => aAo t r

def zX (ks : List Nat) : List (Nat × V) → List (Nat × V)
  | [] => []
  | p :: r => match aAo p.1 ks with
    | true => zX ks r
    | false => p :: zX ks r

section main
variable {P : Program} {tt : TT} {ro : Option Nat} {N : Nat} {T : Env} {H : aR} {ds : List Nat} {Q : Exit → Env → aR → List Nat → Prop} {c : Code} {e : Exit}
abbrev ClK (_l : List (Nat × V)) (N : Nat) (Q : Exit → Env → aR → List Nat → Prop) (e : Exit) (T : Env) (H : aR) (ds : List Nat) : Prop := Cl N Q e T H ds

theorem aU (htt : eE P tt) (n : Nat) {l : List (Nat × V)} (h : RWs P tt N c.ops (aJ 0 n) (Env.ofL l) H (fun T' H' => ClK l N Q .normal T' H' ds)) (hk : c.kind = 7 := by kernel_rfl) (hn : c.ops.size = n := by kernel_rfl) : AWP P ro N c (Env.ofL l) H ds Q := HB (HC htt hk hn h)

theorem kH (pl : Oper → Bool) (htt : eE P tt) (n : Nat) {l : List (Nat × V)} (h : RD P tt N pl c.ops (aJ 0 n) (PE.ofL l) H (fun T' H' => ClK l N Q .normal (lift T') H' ds)) (hm : P.follows .mixedOrders = true := by kernel_rfl) (hk : c.kind = 8 := by kernel_rfl) (hn : c.ops.size = n := by kernel_rfl) (hok : NX pl c.ops = true := by kernel_rfl) : AWP P ro N c (Env.ofL l) H ds Q := HB (aAg htt hm hk hn hok h)

theorem bS {X : Env → aR → List Nat → Prop} {l : List (Nat × V)} (ks : List Nat) (new : List (Nat × V)) (next : X (Env.ofL (new ++ zX ks l)) H ds) (h : (new ++ zX ks l).map (fun p => T p.1) = (new ++ zX ks l).map (fun p => some ([], p.2)) := by kernel_rfl) : ClK l N (sN X Q) .normal T H ds := cT (.eq h) (aI next)

theorem dB (J : Env → aR → Prop) (hJ : ∀ T H, J T H → AWP P ro N c.r T H ds Q) (h : AWP P ro N c.l T H ds (sN (fun T H ds' => ds' = ds ∧ J T H) Q)) (hk : c.kind = 1 := by kernel_rfl) : AWP P ro N c T H ds Q := aAl hk J hJ h

theorem cJ {f : Nat} {fn : Func} {args : List V} {Q : V → aR → Prop} (hf : P.funcs[f]? = some fn) (h : AWP P none fn.ntmps (B fn) (Env.ofL (params 0 args)) H [] (EU fn (fun r H => ∃ r', aS r r' ∧ Q r' H))) (hb : fn.body.isSome = true := by kernel_rfl) (hname : (fn.name == "runtime.NumGoroutine") = false := by kernel_rfl) (hN0 : Nat.ble args.length fn.ntmps = true := by kernel_rfl) : lM P f args H Q := aAp hf hb hname hN0 h

theorem aT (htt : eE P tt) (n : Nat) {l : List (Nat × V)} (ks : List Nat) (new : List (Nat × V)) (next : AWP P ro N c.r (Env.ofL (new ++ zX ks l)) H ds Q)
    (hk : c.kind = 1 := by kernel_rfl) (hk2 : c.l.kind = 7 := by kernel_rfl) (hn : c.l.ops.size = n := by kernel_rfl) (hc : yP tt N c.l.ops (aJ 0 n) (Env.ofL l) = some [] := by kernel_rfl)
    (h : (new ++ zX ks l).map (fun p => yQ tt c.l.ops (aJ 0 n) (Env.ofL l) p.1) = (new ++ zX ks l).map (fun p => some ([], p.2)) := by kernel_rfl) : AWP P ro N c (Env.ofL l) H ds Q :=
  LS hk (HB (HC htt hk2 hn (LK hc trivial (cT (.eq h) (aI next)))))

theorem bX (htt : eE P tt) (n : Nat) {l : List (Nat × V)} (new : List (Nat × V)) (next : AWP P ro N c.r (Env.ofL new) H ds Q)
    (hk : c.kind = 1 := by kernel_rfl) (hk2 : c.l.kind = 7 := by kernel_rfl) (hn : c.l.ops.size = n := by kernel_rfl) (hc : yP tt N c.l.ops (aJ 0 n) (Env.ofL l) = some [] := by kernel_rfl)
    (h : new.map (fun p => yQ tt c.l.ops (aJ 0 n) (Env.ofL l) p.1) = new.map (fun p => some ([], p.2)) := by kernel_rfl) : AWP P ro N c (Env.ofL l) H ds Q :=
  LS hk (HB (HC htt hk2 hn (LK hc trivial (cT (.eq h) (aI next)))))

theorem bL {α : Type} {b : Bool} {x y : Option α} {r : α} (h0 : cond b x y = some r) (h1 : x = some r → AWP P ro N c.t T H ds Q) (h2 : y = some r → AWP P ro N c.e T H ds Q) (hk : c.kind = 2 := by kernel_rfl) (hc : bY T [] c.cnd = some (.lit (.bool b)) := by kernel_rfl) : AWP P ro N c T H ds Q :=
  UB hk hc (fun e => h1 (zO e h0)) (fun e => h2 (zW e h0))

end main
section region
variable {P : Program} {tt : TT} {N : Nat} {T : Env} {H : aR} {ops : Array Oper} {K : Env → aR → Prop} {i n : Nat}
theorem sH (Ds : List Prop) (hD : qF Ds) (h : K (yQ tt ops (aJ i n) T) H) (hc : yP tt N ops (aJ i n) T = some Ds := by kernel_rfl) : RWs P tt N ops (aJ i n) T H K := LK hc hD h

theorem rB (j : Nat) (Ds : List Prop) (hD : qF Ds) (h : RWs P tt N ops (aJ j n) (yQ tt ops (aJ i j) T) H K) (hs : aJ i n = aJ i j ++ aJ j n := by kernel_rfl) (hc : yP tt N ops (aJ i j) T = some Ds := by kernel_rfl) : RWs P tt N ops (aJ i n) T H K := UG j hs hc hD h

theorem nY {H0 : Frame} {L : List (Nat × Nat × List V)} (q lo k ix : Nat) (y x : V) (es : List V) (hO : aL H0 H L) (hy : es[ix]? = some y)
    (h : RWs P tt N ops (aJ (i + 1) n) (T.bO (cB ops i) ([], x)) H K) (hs : aJ i n = i :: aJ (i + 1) n := by kernel_rfl) (hd : wT tt N ops T i y = some ([], lo, ix, x) := by kernel_rfl) (hL : L[q]? = some (lo, k, es) := by kernel_rfl) : RWs P tt N ops (aJ i n) T H K := vI [] q lo k ix y x es hs hd hO hL true rfl (fun _ => hy) h

theorem mZ {H0 : Frame} {L : List (Nat × Nat × List V)} (q lo k ix : Nat) (y y' : V) (es : List V) (L' : List (Nat × Nat × List V)) (hO : aL H0 H L) (hy : es[ix]? = some y) (hl : L' = L.set q (lo, k, es.set ix y')) (h : ∀ H', aL H0 H' L' → RWs P tt N ops (aJ (i + 1) n) T H' K)
    (hs : aJ i n = i :: aJ (i + 1) n := by kernel_rfl) (hn : cB ops i = none := by kernel_rfl) (hd : sW tt N ops T i y = some (lo, ix, y') := by kernel_rfl) (hL : L[q]? = some (lo, k, es) := by kernel_rfl) : RWs P tt N ops (aJ i n) T H K := SX q lo k ix y y' es L' hs hn hd hO hL hy hl h

end region
section drawn
variable {P : Program} {tt : TT} {N : Nat} {T : PE} {H : aR} {ops : Array Oper} {K : PE → aR → Prop} {i n : Nat} {pl : Oper → Bool}
theorem dA (j : Nat) (Ds : List Prop) (hD : qF Ds) (h : RD P tt N pl ops (aJ j n) (yG tt ops (aJ i j) T) H K) (hs : aJ i n = aJ i j ++ aJ j n := by kernel_rfl) (hc : xY tt N ops (aJ i j) T = some Ds := by kernel_rfl) : RD P tt N pl ops (aJ i n) T H K := TQ j hs hc hD h

theorem kC {H0 : Frame} {L : List (Nat × Nat × List V)} (q lo k ix : Nat) (y x : V) (es : List V) (hO : aL H0 H L) (hy : es[ix]? = some y) (h : RD P tt N pl ops (aJ (i + 1) n) (T.bO (cB ops i) x) H K)
    (hs : aJ i n = i :: aJ (i + 1) n := by kernel_rfl) (hp : (fY N ops i).isSome = true := by kernel_rfl) (hq : qH pl ops i = true := by kernel_rfl) (hd : wT tt N ops (lift T) i y = some ([], lo, ix, x) := by kernel_rfl) (hL : L[q]? = some (lo, k, es) := by kernel_rfl) : RD P tt N pl ops (aJ i n) T H K := YN q lo k ix y x es hs hp hq hd hO hL hy h

theorem sE {H0 : Frame} {L : List (Nat × Nat × List V)} (q lo k ix : Nat) (y y' : V) (es : List V) (L' : List (Nat × Nat × List V)) (hO : aL H0 H L) (hy : es[ix]? = some y) (hl : L' = L.set q (lo, k, es.set ix y')) (h : ∀ H', aL H0 H' L' → RD P tt N pl ops (aJ (i + 1) n) T H' K)
    (hs : aJ i n = i :: aJ (i + 1) n := by kernel_rfl) (hn : cB ops i = none := by kernel_rfl) (hd : sW tt N ops (lift T) i y = some (lo, ix, y') := by kernel_rfl) (hL : L[q]? = some (lo, k, es) := by kernel_rfl) : RD P tt N pl ops (aJ i n) T H K := WM q lo k ix y y' es L' hs hn hd hO hL hy hl h

end drawn
abbrev wR (n : Int) : Int := IntKind.i64.wrap n

abbrev eI (n : Int) : V := pH .i64 n

abbrev lN {α : Type} (l : List α) : Int := ((List.length l : Nat) : Int)

abbrev gD {α : Type} [Inhabited α] (l : List α) (i : Int) : α := List.getD l (Int.toNat i) default

theorem oI {α : Type} {x y : α} (h : some x = some y) : x = y := Option.some.inj h

section ends
variable {P : Program} {tt : TT} {N : Nat} {T : Env} {H H0 : aR} {fn : Func} {x : V} {L : List (Nat × Nat × List V)}
theorem Q_r (hO : aL ⟨H0, [], []⟩ H L) (hx : AP fn T = some x := by kernel_rfl) : EU fn (fun r H => ∃ r', aS r r' ∧ (r' = x ∧ cY H0 H)) .ret T H [] := nB hx (aS.refl _) ⟨rfl, hO.out⟩

end ends
section calls
variable {P : Program} {tt : TT} {N : Nat} {T : Env} {H : aR} {ops : Array Oper} {K : Env → aR → Prop} {i n : Nat}
theorem eJ {H0 : Frame} {L : List (Nat × Nat × List V)} {fid : Nat} {as0 : List V} {x : V} (hc : cF P fid as0 x) (hO : aL H0 H L)
    (h : ∀ H', aL H0 H' L → RWs P tt N ops (aJ (i + 1) n) (T.bO (cB ops i) ([], x)) H' K) (hs : aJ i n = i :: aJ (i + 1) n := by kernel_rfl) (hd : uZ N ops T i = some ([], fid, as0) := by kernel_rfl) : RWs P tt N ops (aJ i n) T H K :=
  tO [] fid as0 x true hs hd rfl (fun _ => hc) hO h

theorem oQ {H0 : Frame} {L : List (Nat × Nat × List V)} {lo k : Nat} {es es' : List V} {fid : Nat} {as0 : List V} {x : V} (L' : List (Nat × Nat × List V)) (q : Nat) (hc : mF P fid lo k es es' as0 x) (hO : aL H0 H L)
    (h : ∀ H', aL H0 H' L' → es'.length = es.length → RWs P tt N ops (aJ (i + 1) n) (T.bO (cB ops i) ([], x)) H' K) (hs : aJ i n = i :: aJ (i + 1) n := by kernel_rfl) (hd : mU N ops T i = some (fid, as0) := by kernel_rfl)
    (hq : L[q]? = some (lo, k, es) := by kernel_rfl) (hl : L' = L.set q (lo, k, es') := by kernel_rfl) : RWs P tt N ops (aJ i n) T H K := YR q lo k es es' fid as0 x hs hd hc hO hq hl h

variable {TD : PE} {KD : PE → aR → Prop} {pl : Oper → Bool}
theorem zC {H0 : Frame} {L : List (Nat × Nat × List V)} {fid : Nat} {as0 : List V} {x : V} (hc : cF P fid as0 x) (hO : aL H0 H L)
    (h : ∀ H', aL H0 H' L → RD P tt N pl ops (aJ (i + 1) n) (TD.bO (cB ops i) x) H' KD) (hs : aJ i n = i :: aJ (i + 1) n := by kernel_rfl) (hd : mU N ops (lift TD) i = some (fid, as0) := by kernel_rfl) : RD P tt N pl ops (aJ i n) TD H KD :=
  QG fid as0 x hs hd hc hO h

end calls
theorem FD {a a' b b' : Bool} (h : a = a') (g : b = b') : (a && b) = (a' && b') := by rw [h, g]

theorem yU {a a' b b' : Bool} (h : a = a') (g : b = b') : (a || b) = (a' || b') := by rw [h, g]

theorem zP {a a' : Bool} (h : a = a') : (!a) = (!a') := by rw [h]

end Go.Abs
namespace Go.Abs
open Go Go.RowKit
abbrev OL := List (Nat × Nat × List V)

def qD (P : Program) (f : FuncId) (args : List V) (L : OL) (Post : V → OL → Prop) : Prop :=
  ∀ F H, aL F H L → lM P f args H fun x H' => ∃ L', Post x L' ∧ aL F H' L'

theorem qD.sub {P : Program} {f : FuncId} {as0 as0' : List V} {L : OL} {Post : V → OL → Prop} (h : qD P f as0' L Post) (hs : oH as0 as0') : qD P f as0 L Post := fun F H hO => (h F H hO).sub hs

theorem aL.part {F : Frame} {H : aR} {L R : OL} (h : aL F H (L ++ R)) : aL ⟨F.h, F.e, up R ++ F.g⟩ H L := by
  have h1 := h.GL
  rw [show up (L ++ R) = up L ++ up R by simp [up], List.append_assoc] at h1
  exact h1.take

theorem aL.glue {F : Frame} {H : aR} {L R : OL} (h : aL ⟨F.h, F.e, up R ++ F.g⟩ H L) : aL F H (L ++ R) := by
  have h1 := h.GL
  rw [← List.append_assoc, ← show up (L ++ R) = up L ++ up R by simp [up]] at h1
  exact h1.take

section rules
variable {P : Program} {tt : TT} {N : Nat} {T : Env} {H : aR} {ops : Array Oper} {K : Env → aR → Prop} {i n : Nat}
theorem vS {F : Frame} {L0 L : OL} {Post : V → OL → Prop} {fid : Nat} {as0 : List V} (R : OL) (ix : List Nat) (hc : qD P fid as0 L Post) (hO : aL F H L0)
    (h : ∀ x L' H', Post x L' → aL F H' (L' ++ R) → RWs P tt N ops (aJ (i + 1) n) (T.bO (cB ops i) ([], x)) H' K) (hnd : ix.Nodup := by decide) (hp : ix.map (fun i => L0[i]?) = (L ++ R).map some := by kernel_rfl)
    (hs : aJ i n = i :: aJ (i + 1) n := by kernel_rfl) (hd : mU N ops T i = some (fid, as0) := by kernel_rfl) : RWs P tt N ops (aJ i n) T H K :=
  DD hs hd (hc _ H (hO.pick ix hnd hp).part) fun _ H' ⟨L', hP, hO'⟩ => h _ L' H' hP hO'.glue

variable {TD : PE} {KD : PE → aR → Prop} {pl : Oper → Bool}
end rules
section ends
variable {fn : Func} {T : Env} {H : aR} {F : Frame} {Post : V → OL → Prop} {x : V} {L : OL}
theorem qL (hO : aL F H L) (hp : Post x L) (hx : AP fn T = some x := by kernel_rfl) : EU fn (fun r H => ∃ r', aS r r' ∧ ∃ L', Post r' L' ∧ aL F H L') .ret T H [] := nB hx (aS.refl _) ⟨L, hp, hO⟩

theorem aAB (hO : aL F H L) (hp : Post x L) (hx : AP fn T = some x := by kernel_rfl) : EU fn (fun r H => ∃ r', aS r r' ∧ ∃ L', Post r' L' ∧ aL F H L') .normal T H [] := qK hx (aS.refl _) ⟨L, hp, hO⟩

end ends
end Go.Abs
namespace Go.Abs
open Go Go.RowKit
section bundles
variable {β : Type} (sh : Nat → Nat → β → OL)
variable {sh}
end bundles
def WH : V → Option Bool
  | .lit (.pointer none) => some true
  | .lp _ _ _ => some false
  | _ => none

section nils
variable {P : Program} {tt : TT} {N : Nat} {T : Env} {H : aR} {ops : Array Oper} {K : Env → aR → Prop} {i n : Nat}
theorem NY {K : V → aR → Prop} {op : BinOp} {t e u : TypeId} {x y : Operand} {z : V} {b : Bool} (hop : op = .eql ∨ op = .neq) (hu : P.underlying t = some (.pointer e)) (hz : WH z = some b) (h : K (.lit (.bool (if op = .eql then b else !b))) H) : SM P (.binOp op t x y u) [z, .lit (.pointer none)] H K := by
  intro ro o a g w next R ho hs hx hn
  have r1 := hx.2 0 z (a.eval x) rfl (by simp [Op.operands])
  have r2 := hx.2 1 (.lit (.pointer none)) (a.eval y) rfl (by simp [Op.operands])
  have e2 : a.eval y = .pointer none := r2.kX
  have e1 : ∃ ad, a.eval x = .pointer ad ∧ ad.isNone = b := by
    unfold WH at hz
    split at hz
    · simp at hz; subst hz; exact ⟨none, r1.kX, rfl⟩
    · simp at hz; subst hz; obtain ⟨_, h2⟩ := r1.lpE; exact ⟨_, h2, rfl⟩
    · cases hz
  obtain ⟨ad, e1, e3⟩ := e1
  have hq : (Op.equal t (.pointer ad) (.pointer none)).run P w = .ok b w := by
    unfold Op.equal Op.maxDepth
    unfold Op.equalIn
    simp only [Sem.run_bind, run_underlying hu, Result.andThen]
    cases ad with
    | none => subst e3; rfl
    | some ad => subst e3; rfl
  have hr : (execOp a.eval o).run P w = .ok (.value (.bool (if op = .eql then b else !b))) w := by
    cases o
    simp only at ho
    subst ho
    rcases hop with rfl | rfl
    · have h1 : (eqGuard .eql t x y (.pointer ad) (.pointer none)).run P w = .ok () w := rfl
      have h2 : (binOp .eql t (.pointer ad) (.pointer none)).run P w = .ok (.bool b) w := by
        simp only [binOp, Sem.run_bind, hq, Result.andThen]; rfl
      simp [execOp, e1, e2, h1, h2, Result.andThen]
    · have h1 : (eqGuard .neq t x y (.pointer ad) (.pointer none)).run P w = .ok () w := rfl
      have h2 : (binOp .neq t (.pointer ad) (.pointer none)).run P w = .ok (.bool (!b)) w := by
        simp only [binOp, Sem.run_bind, hq, Result.andThen]; rfl
      simp [execOp, e1, e2, h1, h2, Result.andThen]
  exact fQ (fun c e => by rw [e] at ho; cases ho) hr (hn _ _ _ _ _ h hs (.lit _ rfl) (Ext.refl g w))

def XO (P : Program) (t : TypeId) : Bool := match P.underlying t with
  | some (.pointer _) => true
  | _ => false

def UR (P : Program) (N : Nat) (ops : Array Oper) (T : Env) (i : Nat) : Option Bool := match fY N ops i with
  | some (.binOp op t x y _) => match XO P t, bY T [] x, bY T [] y with
    | true, some z, some (.lit (.pointer none)) => match WH z, op with
      | some b, .eql => some b
      | some b, .neq => some (!b)
      | _, _ => none
    | _, _, _ => none
  | _ => none

theorem BP (b : Bool) (h : RWs P tt N ops (aJ (i + 1) n) (T.bO (cB ops i) ([], .lit (.bool b))) H K)
    (hs : aJ i n = i :: aJ (i + 1) n := by kernel_rfl) (hd : UR P N ops T i = some b := by kernel_rfl) : RWs P tt N ops (aJ i n) T H K := by
  unfold UR at hd
  split at hd
  · rename_i op t x y u hp
    split at hd
    · rename_i z hi hx hy
      unfold XO at hi
      split at hi
      · rename_i e hu
        split at hd
        · rename_i b' hz
          simp at hd; subst hd
          exact NS hs hp (xs := [z, .lit (.pointer none)]) (by simp [Op.operands, gZ, hx, hy]) (NY (.inl rfl) hu hz (by simpa using h))
        · rename_i b' hz
          simp at hd; subst hd
          exact NS hs hp (xs := [z, .lit (.pointer none)]) (by simp [Op.operands, gZ, hx, hy]) (NY (.inr rfl) hu hz (by simpa using h))
        · cases hd
      · cases hi
    · cases hd
  · cases hd

end nils
end Go.Abs
namespace Go.Abs
open Go Go.RowKit
section
variable {P : Program} {tt : TT} {ro : Option Nat} {N : Nat} {T : Env} {H : aR} {ds : List Nat} {Q : Exit → Env → aR → List Nat → Prop} {ops : Array Oper} {K : Env → aR → Prop} {i n : Nat}
theorem bA {l : List (Nat × V)} (h : l.map (fun p => T p.1) = l.map (fun p => some ([], p.2)) := by kernel_rfl) : Has T l := .eq h

theorem eS {c : Code} {S R : Type} {body : S → Option (S ⊕ R)} {s : S} {r : R} (I : S → Env → aR → Prop) (hl : lp body s = some r) (h0 : I s T H)
    (round : ∀ k s out T H, I s T H → body s = some out → RX body k r out → AWP P ro N c.b T H ds (sN (fun T' H' ds' => ds' = ds ∧ ∃ s', out = .inl s' ∧ I s' T' H') Q)) (hk : c.kind = 4 := by kernel_rfl) : AWP P ro N c T H ds Q := ZN hk I hl h0 round

theorem qR (k : Nat) (z : V) (h : RWs P tt N ops (aJ (i + 1) n) (T.bO (cB ops i) ([], .rp z)) H K) (hs : aJ i n = i :: aJ (i + 1) n := by kernel_rfl) (hd : rF tt N ops T i = some (k, z) := by kernel_rfl) : RWs P tt N ops (aJ i n) T H K := ZW k z hs hd h

theorem sL (xs : List V) (k : Nat) (h : RWs P tt N ops (aJ (i + 1) n) (T.bO (cB ops i) ([], lI xs)) H K) (hs : aJ i n = i :: aJ (i + 1) n := by kernel_rfl) (hd : DP tt N ops T i = some (xs, k) := by kernel_rfl) : RWs P tt N ops (aJ i n) T H K := aAY hs hd h

theorem DS {H0 : Frame} {L : List (Nat × Nat × List V)} {α : Type} (e : α → V) (xs zs : List α) (q lo k bytes : Nat) (x : V) (L' : Nat → List (Nat × Nat × List V)) (hO : aL H0 H L)
    (hy : sZ k H x = some (zs.map e)) (hb : (xs.length + zs.length) * bytes ≤ 140737488355328 ∧ xs.length + zs.length ≤ 9223372036854775807)
    (h : ∀ lo' H', aL H0 H' (L' lo') → RWs P tt N ops (aJ (i + 1) n) (T.bO (cB ops i) ([], .msl k lo' 0 (xs ++ zs).length)) H' K)
    (hs : aJ i n = i :: aJ (i + 1) n := by kernel_rfl) (hd : yL tt N ops T i = some (.msl k lo 0 xs.length, x, k, bytes) := by kernel_rfl) (hL : L[q]? = some (lo, k, xs.map e) := by kernel_rfl) (hl : ∀ lo', L' lo' = L.set q (lo', k, (xs ++ zs).map e) := by intro _; kernel_rfl) : RWs P tt N ops (aJ i n) T H K :=
  ZB xs zs q lo k bytes x L' hs hd hO hL hy hb hl h

variable {TD : PE} {KD : PE → aR → Prop} {pl : Oper → Bool}
theorem JC {H0 : Frame} {L : List (Nat × Nat × List V)} (q lo k ix : Nat) (y x : V) (es : List V) (hO : aL H0 H L) (hy : es[ix]? = some y) (h : RD P tt N pl ops (aJ (i + 1) n) (TD.bO (cB ops i) x) H KD)
    (hs : aJ i n = i :: aJ (i + 1) n := by kernel_rfl) (hq : qH pl ops i = true := by kernel_rfl) (hd : GS tt N ops TD i y = some (lo, ix, x) := by kernel_rfl) (hL : L[q]? = some (lo, k, es) := by kernel_rfl) : RD P tt N pl ops (aJ i n) TD H KD := ZR q lo k ix y x es hs hq hd hO hL hy h

end
section
variable {P : Program} {tt : TT} {N : Nat} {T : Env} {H : aR} {ops : Array Oper} {K : Env → aR → Prop} {i n : Nat}
theorem IN {F : Frame} {L0 L : OL} {Post : V → OL → Prop} {fid : Nat} {as0 : List V} (ctx : Ctx) (b : Bool) (y : V) (R : OL) (ix : List Nat) (hc : b = true → qD P fid as0 L Post) (hy : b = false → Post y L) (hO : aL F H L0)
    (h : ∀ x L' H', Post x L' → aL F H' (L' ++ R) → RWs P tt N ops (aJ (i + 1) n) (T.bO (cB ops i) (ctx, x)) H' K) (hnd : ix.Nodup := by decide) (hp : ix.map (fun i => L0[i]?) = (L ++ R).map some := by kernel_rfl)
    (hs : aJ i n = i :: aJ (i + 1) n := by kernel_rfl) (hd : uZ N ops T i = some (ctx, fid, as0) := by kernel_rfl) (hb : gB T ctx = b := by kernel_rfl) : RWs P tt N ops (aJ i n) T H K := by
  unfold uZ at hd
  split at hd
  · rename_i ctx' f args tys hp'
    split at hd
    · rename_i ys cs xs hf hx
      simp at hd; obtain ⟨rfl, rfl, rfl⟩ := hd
      rw [hs]
      obtain ⟨o, ho, e, hctx, hdd, hdst⟩ := AF hp'
      rw [hdst] at h
      refine ⟨T, H, gS.refl _ _ _, o, ctx', ho, hctx, hdd, .inr ⟨fun hg => .inl ?_, fun hg => ?_⟩⟩
      · rw [e]
        refine ⟨_, xs, hf, hx, .inl ?_⟩
        have h1 := hc (hb.symm.trans hg) _ H (hO.pick ix hnd hp).part
        simp only [List.append_assoc] at h1 ⊢
        exact h1.mono fun _ H' ⟨L', hP, hO'⟩ => h _ L' H' hP hO'.glue
      · exact ⟨y, h y L H (hy (hb.symm.trans hg)) (hO.pick ix hnd hp)⟩
    · simp at hd
  · simp at hd

end
theorem qD.read {P : Program} {f : FuncId} {as0 : List V} {L : OL} {x : V} (hc : qD P f as0 L fun x' L' => x' = x ∧ L' = L) {F : Frame} {H : aR} (hO : aL F H L) : lM P f as0 H fun r H' => r = x ∧ cY H H' := by
  have h1 : aL ⟨H, L.map (·.1), []⟩ H L := ⟨pK.refl H _, hO.ne, fun i lo k es hi => ⟨.inr (List.mem_map.2 ⟨_, List.mem_of_getElem? hi, rfl⟩), (hO.mem i lo k es hi).2⟩, by simp, by simp, by simp⟩
  refine (hc _ H h1).mono fun r H' ⟨L', ⟨e1, e2⟩, hO'⟩ => ⟨e1, ?_⟩
  subst e2
  refine ⟨hO'.ext.1, fun l hl => ?_⟩
  by_cases hm : l ∈ L'.map (·.1)
  · obtain ⟨p, hp, rfl⟩ := List.mem_map.1 hm
    obtain ⟨i, hi⟩ := List.getElem?_of_mem hp
    rw [(hO'.mem i p.1 p.2.1 p.2.2 hi).2, (hO.mem i p.1 p.2.1 p.2.2 hi).2]
  · exact hO'.ext.2 l hl hm

section
variable {P : Program} {tt : TT} {N : Nat} {T : PE} {H : aR} {ops : Array Oper} {K : PE → aR → Prop} {i n : Nat} {pl : Oper → Bool}
theorem aA0 {F : Frame} {L0 L : OL} {fid : Nat} {as0 : List V} {x : V} (R : OL) (ix : List Nat) (hc : qD P fid as0 L fun x' L' => x' = x ∧ L' = L) (hO : aL F H L0)
    (h : ∀ H', aL F H' L0 → RD P tt N pl ops (aJ (i + 1) n) (T.bO (cB ops i) x) H' K) (hnd : ix.Nodup := by decide) (hp : ix.map (fun i => L0[i]?) = (L ++ R).map some := by kernel_rfl)
    (hs : aJ i n = i :: aJ (i + 1) n := by kernel_rfl) (hd : BM N ops T i = some (fid, as0) := by kernel_rfl) (hz : sU pl ops i = true := by kernel_rfl) : RD P tt N pl ops (aJ i n) T H K := by
  unfold BM at hd
  split at hd
  · rename_i f args tys hp'
    split at hd
    · rename_i ys cs xs hf hx
      simp at hd; obtain ⟨rfl, rfl⟩ := hd
      refine NO hs hp' (fun h => by cases h) (.inr hz) ?_
      refine ⟨_, xs, hf, hx, ?_⟩
      refine Or.inl ?_
      have h1 := hc.read (hO.pick ix hnd hp).part
      simp only [List.append_assoc] at h1 ⊢
      exact h1.mono fun _ H' ⟨e, hx⟩ => ⟨fun _ => hx, e ▸ h H' (hO.call hx)⟩
    · simp at hd
  · simp at hd

end
section
variable {P : Program} {tt : TT} {N : Nat} {T : Env} {H : aR} {ds : List Nat} {Q : Exit → Env → aR → List Nat → Prop}
theorem TK {e : Exit} {H0 : Frame} {L : List (Nat × Nat × List V)} (q k lo k2 : Nat) (el : Nat → V) (L' : Nat → List (Nat × Nat × List V)) (hO : aL H0 H L) (hL : L[q]? = some (lo, k, [.sl true 0 el]))
    (hl : ∀ lo2, L' lo2 = L.set q (lo, k, [.msl k2 lo2 0 0]) ++ [(lo2, k2, [])]) (h : ∀ lo2 H', aL H0 H' (L' lo2) → Cl N Q e T H' ds) : Cl N Q e T H ds := by
  have hat := hO.at q hL
  have hq : q < L.length := (List.getElem?_eq_some_iff.1 hL).1
  have hlt : lo < H.length := (List.getElem?_eq_some_iff.1 hat).1
  refine AZ (T' := T) (H' := (H ++ [cQ.vec k2 []]).set lo (cQ.vec k [.msl k2 H.length 0 0])) ?_ (h H.length _ ?_)
  · intro g w a ds hg
    have hm := hg.sr.more (b := w.heap.size) (o := 0) (k := k2) (cap := 0) (xs := []) (by simp) (by simp) (fun _ => undef) (by simp) (by simp) (fun _ _ _ _ _ _ _ hj => by simp at hj)
    have hx : Ext g w (g.more w.heap.size 0 k2 0) w := (Ext.refl g w).more (.inl (Nat.le_refl _))
    have hat' : (H ++ [cQ.vec k2 []])[lo]? = some (cQ.vec k [.sl true 0 el]) := by rw [List.getElem?_append_left hlt]; exact hat
    have hw := hm.weaken hat' (i := 0) (y' := .msl k2 H.length 0 0) rfl rfl (fun v hv => by
      obtain ⟨a0, cap, rfl, hn, hz⟩ := hv.slE
      have hc0 := hz rfl
      subst hc0
      have := Rep.msl0 (g := g.more w.heap.size 0 k2 0) (w := w) g.n 0 a0 (Nat.lt_succ_self _) (by simp [Gh.more, cU])
      rw [hg.sr.len]
      simpa [Gh.more, cU] using this)
    exact ⟨_, hg.step hx hw (hg.tr.ext hx) rfl rfl, hx⟩
  · rw [hl]
    have h1 := hO.new k2 []
    have hL' : (L ++ [(H.length, k2, ([] : List V))])[q]? = some (lo, k, [.sl true 0 el]) := by rw [List.getElem?_append_left hq]; exact hL
    have h2 := h1.put q hL' [.msl k2 H.length 0 0]
    rwa [List.set_append_left _ _ hq] at h2

end
theorem aAQ {α : Type} {x : Option α} {s s' : Unit} {r : α} (h : (x.bind fun o => some (s, o)) = some (s', r)) : x = some r := by
  cases x with
  | none => cases h
  | some o => simp at h; rw [h]

end Go.Abs
namespace Go.Abs
open Go Go.RowKit
theorem sM.toV {P : Program} {fid : Nat} {σ : Type} {I : σ → Gs → Prop} {s s' : σ} {args : List V} {r : V} (h : sM P fid I s args s' r) : CI P (.fn (.func fid) [] []) I s args s' r := fun H G hi hg => Or.inl (by simpa using h H G hi hg)

section
variable {P : Program} {tt : TT} {N : Nat} {T : Env} {H : aR} {ops : Array Oper} {K : Env → aR → Prop} {i n : Nat}
theorem YW {K : V → aR → Prop} {t e : TypeId} {te : TyE} {l c : Operand} {k1 k2 : IntKind} {m : Int} {z : V} (htt : eE P tt) (hu : P.underlying t = some (.slice e)) (hte : tt e = some te) (hz0 : pN te.zero te.size = true)
    (hz : ∀ g w v, Rep g w te.zero v → Rep g w z v) (hn : dS z = true) (h0 : 0 ≤ m) (hb : (te.bytes : Int) * m ≤ 281474976710656) (h63 : m ≤ 9223372036854775807)
    (h : K (.msl te.size H.length 0 m.toNat) (H ++ [.vec te.size (List.replicate m.toNat z)])) : SM P (.makeSlice t l c) [.lit (.int k1 m), .lit (.int k2 m)] H K := by
  intro ro o a g w next R ho hs hx hnx
  obtain ⟨⟨ti, hi, his, hib, zv, hzi, hzv⟩, _⟩ := htt.facts hte
  have r1 := hx.2 0 (.lit (.int k1 m)) (a.eval l) rfl (by simp [Op.operands])
  have r2 := hx.2 1 (.lit (.int k2 m)) (a.eval c) rfl (by simp [Op.operands])
  have e1 : a.eval l = .int k1 m := r1.kX
  have e2 : a.eval c = .int k2 m := r2.kX
  have hr := run_make (P := P) w t e ti zv hu hi hzi k1 k2 m m h0 (Int.le_refl _) (by rw [hib]; exact hb) h63
  have hzr : Rep g w te.zero zv := nO hzv
  have hzs : zv.cells.size = te.size := by rw [← (hzr.qQ (jP hz0).1).1, (jP hz0).2]
  obtain ⟨s1, s2, s3, _⟩ := hs.AS (t := e) (cs := madeCells zv.cells (m.toNat * ti.size)) (k := te.size) (cap := m.toNat) (xs := List.replicate m.toNat z) (fun _ => zv) (fun i x hix => by
      have hi2 : i < m.toNat := by simpa using (List.getElem?_eq_some_iff.1 hix).1
      have hxz : x = z := by
        have := List.eq_of_mem_replicate (List.mem_of_getElem? hix); exact this
      subst hxz
      refine ⟨hz g w zv hzr, hzs, fun j y hj => ?_⟩
      have hj2 : j < te.size := by rw [← hzs]; exact (Array.getElem?_eq_some_iff.1 hj).1
      have hlt : i * te.size + j < m.toNat * ti.size := by
        rw [his]
        have : (i + 1) * te.size ≤ m.toNat * te.size := Nat.mul_le_mul_right _ hi2
        rw [Nat.add_mul] at this; omega
      have hmod : (i * te.size + j) % zv.cells.size = j := by
        rw [hzs, Nat.mul_comm, Nat.mul_add_mod, Nat.mod_eq_of_lt hj2]
      have hj3 : j < zv.cells.size := by rw [hzs]; exact hj2
      rw [Array.getElem?_eq_getElem hj3] at hj
      simp only [Option.some.injEq] at hj
      unfold madeCells
      rw [Array.getElem?_map, Array.getElem?_eq_getElem (by simpa using hlt)]
      simp only [Array.getElem_range, Option.map_some, hmod]
      rw [getElem!_pos zv.cells j hj3, hj])
    (by rw [size_madeCells, his, Nat.mul_comm]) (by simp) (fun x hx => by rw [List.eq_of_mem_replicate hx]; exact hn)
  have hrun : (execOp a.eval o).run P w = .ok (.value (.slice (some ⟨w.heap.size, 0, none⟩) m.toNat m.toNat)) (w.alloc (.cells (madeCells zv.cells (m.toNat * ti.size)) e)) := by
    cases o
    simp only at ho
    subst ho
    simp only [execOp, e1, e2, Sem.run_bind, hr, Result.andThen]
    rfl
  refine fQ (fun c e => by rw [e] at ho; cases ho) hrun (hnx (.msl te.size H.length 0 m.toNat) _ _ _ _ h s1 ?_ s2)
  simpa using s3

def NJ (P : Program) (tt : TT) (N : Nat) (ops : Array Oper) (T : Env) (i : Nat) : Option (V × V × Nat × Nat) := match fY N ops i with
  | some (.makeSlice t l c) => match bY T [] l, bY T [] c, P.underlying t with
    | some x, some y, some (.slice e) => match tt e with
      | some te => match pN te.zero te.size with
        | true => some (x, y, te.size, te.bytes)
        | false => none
      | none => none
    | _, _, _ => none
  | _ => none

def MN (P : Program) (tt : TT) (N : Nat) (ops : Array Oper) (i : Nat) : Option V := match fY N ops i with
  | some (.makeSlice t _ _) => match P.underlying t with
    | some (.slice e) => match tt e with
      | some te => some te.zero
      | none => none
    | _ => none
  | _ => none

theorem YZ {α : Type} {en : α → V} {H0 : Frame} {L : List (Nat × Nat × List V)} (htt : eE P tt) (k by' : Nat) (m : Int) (a : α) (z0 : V) (hsub : aS z0 (en a)) (hc : 0 ≤ m ∧ (by' : Int) * m ≤ 281474976710656 ∧ m ≤ 9223372036854775807) (hO : aL H0 H L)
    (h : ∀ lo H', aL H0 H' (L ++ [(lo, k, List.map en (List.replicate m.toNat a))]) → RWs P tt N ops (aJ (i + 1) n) (T.bO (cB ops i) ([], .msl k lo 0 (List.length (List.replicate m.toNat a)))) H' K)
    (hs : aJ i n = i :: aJ (i + 1) n := by kernel_rfl) (hd : NJ P tt N ops T i = some (.lit (.int .i64 m), .lit (.int .i64 m), k, by') := by kernel_rfl) (hz : MN P tt N ops i = some z0 := by kernel_rfl) (hn : dS (en a) = true := by kernel_rfl) : RWs P tt N ops (aJ i n) T H K := by
  unfold NJ at hd
  split at hd
  · rename_i t l c hp
    split at hd
    · rename_i x y e hl hcc hu
      split at hd
      · rename_i te hte
        split at hd
        · rename_i hso
          simp at hd; obtain ⟨rfl, rfl, rfl, rfl⟩ := hd
          have hz' : z0 = te.zero := by
            unfold MN at hz
            rw [hp] at hz
            simp only [hu, hte, Option.some.injEq] at hz
            exact hz.symm
          subst hz'
          refine NS hs hp (xs := [.lit (.int .i64 m), .lit (.int .i64 m)]) (by simp [Op.operands, gZ, hl, hcc]) (YW htt hu hte hso (fun g w v hv => hsub g w v hv) hn hc.1 hc.2.1 hc.2.2 ?_)
          have := h _ _ (hO.new te.size (List.map en (List.replicate m.toNat a)))
          simpa using this
        · cases hd
      · cases hd
    · cases hd
  · cases hd

end
end Go.Abs
namespace Go.Abs
open Go
structure aH where
  Kind : Int
  Num : Int
  Text : ByteArray
  deriving Inhabited, DecidableEq

def GC (x : aH) : List V := [(pH .i64 x.Kind)] ++ [(pH .i64 x.Num)] ++ [(wJ x.Text)]

def aO (x : aH) : V := .agg (GC x)

structure aB where
  Row : (List aH)
  At : Int
  Net : Int
  deriving Inhabited, DecidableEq

def HS (x : aB) : List V := [(eL aO x.Row)] ++ [(pH .i64 x.At)] ++ [(pH .i64 x.Net)]

def aC (x : aB) : V := .agg (HS x)

structure cO where
  Kind : Int
  Input : Int
  Edges : (List aB)
  At : Int
  deriving Inhabited, DecidableEq

def HI (x : cO) : List V := [(pH .i64 x.Kind)] ++ [(pH .i64 x.Input)] ++ [(eL aC x.Edges)] ++ [(pH .i64 x.At)]

def cI (x : cO) : V := .agg (HI x)

structure aY where
  clock : Int
  held : (List aB)
  deriving Inhabited, DecidableEq

def LA (x : aY) : List V := [(pH .i64 x.clock)] ++ [(eL aC x.held)]

def aN (x : aY) : V := .agg (LA x)

structure aV where
  inputs : (List aY)
  deriving Inhabited, DecidableEq

structure aD where
  At : Int
  Net : Int
  deriving Inhabited, DecidableEq

def SJ (x : aD) : List V := [(pH .i64 x.At)] ++ [(pH .i64 x.Net)]

def aE (x : aD) : V := .agg (SJ x)

inductive bH where
  | none_
  | k_number (x : Int)
  | k_words (x : ByteArray)
  deriving DecidableEq

instance : Inhabited bH := ⟨.none_⟩

def bF : bH → V
  | .none_ => .lit .nilIface
  | .k_number x => .ifc 113 (pH .i64 x)
  | .k_words x => .ifc 117 (wJ x)

noncomputable def rU (n0 : Int) : Option (Option aV × Int) :=
  cond ((decide (n0 < (1 : Int))) || (decide ((8 : Int) < n0)))
  (some (none, (2 : Int)))
  (bI (0 ≤ n0 ∧ (32 : Int) * n0 ≤ 281474976710656 ∧ n0 ≤ 9223372036854775807) <|
  some (some (aV.mk (List.replicate (Int.toNat n0) (aY.mk (0 : Int) []))), (0 : Int)))

noncomputable def nG (a0 : aV) (k1 : Int) : Option Int :=
  cond ((decide (k1 < (0 : Int))) || (decide ((lN a0.inputs) ≤ k1)))
  (some (3 : Int))
  (bI (0 ≤ k1 ∧ k1 < (lN a0.inputs)) <|
  some (0 : Int))

noncomputable def rZ (l0 : (List aB)) : Option ((List aB)) :=
  some l0

noncomputable def eN  : Option Bool :=
  some true

noncomputable def dH (s10 : (List aH)) (s21 : (List aH)) (t12 : Int) (t13 : Int) : Option ((Int) ⊕ (Unit ⊕ Bool)) :=
  cond (decide (t13 < t12))
  (bI (0 ≤ t13 ∧ t13 < ((List.length s10 : Nat) : Int)) <|
  bI (0 ≤ t13 ∧ t13 < ((List.length s21 : Nat) : Int)) <|
  cond (!((decide (((List.getD s10 (Int.toNat t13) default).Kind) = ((List.getD s21 (Int.toNat t13) default).Kind))) && ((decide (((List.getD s10 (Int.toNat t13) default).Num) = ((List.getD s21 (Int.toNat t13) default).Num))) && ((oN ((List.getD s10 (Int.toNat t13) default).Text) ((List.getD s21 (Int.toNat t13) default).Text)) && true))))
  (some (.inr (.inr false)))
  (some (.inl (IntKind.i64.wrap (t13 + (1 : Int))))))
  (some (.inr (.inl ())))

noncomputable def hM (s10 : (List aH)) (s21 : (List aH)) (t12 : Int) (t13 : Int) : Option Bool :=
  (lp (fun s => dH s10 s21 t12 s) t13).bind (Sum.elim (fun rr => eN ) (fun rr => some rr))

noncomputable def iN (s10 : (List aH)) (s21 : (List aH)) : Option Bool :=
  cond (!decide (((List.length s10 : Nat) : Int) = ((List.length s21 : Nat) : Int)))
  (some false)
  (hM s10 s21 ((List.length s10 : Nat) : Int) (0 : Int))

noncomputable def vT (a0 : (List aH)) (b1 : (List aH)) : Option Bool :=
  (iN a0 b1).bind fun x1 =>
  some x1

noncomputable def tW (r0 : (List aH)) : Option (List aH) :=
  bI (0 ≤ ((List.length r0 : Nat) : Int) ∧ (32 : Int) * ((List.length r0 : Nat) : Int) ≤ 281474976710656 ∧ ((List.length r0 : Nat) : Int) ≤ 9223372036854775807) <|
  bI ((List.length ([] : List aH) + List.length r0) * 32 ≤ 140737488355328 ∧ List.length ([] : List aH) + List.length r0 ≤ 9223372036854775807) <|
  some (([] : List aH) ++ r0)

noncomputable def pL {σ : Type} (mD : σ → (List aH) → (List aD) → Option (σ × Bool)) (sg : σ) (t1 : (List aB)) (i3 : Int) (r4 : (List aH)) (f5 : List aD) : Option ((σ × Int) ⊕ (σ ⊕ σ)) :=
  (tW r4).bind fun x7 =>
  (mD sg x7 f5).bind fun x10 =>
  cond (!x10.2)
  (some (.inr (.inr x10.1)))
  (some (.inl (x10.1, i3)))

noncomputable def iA {σ : Type} (mD : σ → (List aH) → (List aD) → Option (σ × Bool)) (t1 : (List aB)) (r4 : (List aH)) (sg : σ) (i3 : Int) (f5 : List aD) : Option ((σ × Int × List aD) ⊕ ((σ × Int × List aD))) :=
  bI ((((decide (i3 < ((List.length t1 : Nat) : Int)))) = true → 0 ≤ i3 ∧ i3 < ((List.length t1 : Nat) : Int))) <|
  (hU (decide (i3 < ((List.length t1 : Nat) : Int))) (vT ((List.getD t1 (Int.toNat i3) default).Row) r4)).bind fun x16 =>
  cond ((decide (i3 < ((List.length t1 : Nat) : Int))) && x16)
  (bI (0 ≤ i3 ∧ i3 < ((List.length t1 : Nat) : Int)) <|
  bI (0 ≤ i3 ∧ i3 < ((List.length t1 : Nat) : Int)) <|
  bI ((List.length f5 + List.length ([aD.mk ((List.getD t1 (Int.toNat i3) default).At) ((List.getD t1 (Int.toNat i3) default).Net)])) * 16 ≤ 140737488355328 ∧ List.length f5 + List.length ([aD.mk ((List.getD t1 (Int.toNat i3) default).At) ((List.getD t1 (Int.toNat i3) default).Net)]) ≤ 9223372036854775807) <|
  some (.inl (sg, IntKind.i64.wrap (i3 + (1 : Int)), f5 ++ ([aD.mk ((List.getD t1 (Int.toNat i3) default).At) ((List.getD t1 (Int.toNat i3) default).Net)]))))
  (some (.inr (sg, i3, f5)))

noncomputable def rC {σ : Type} (mD : σ → (List aH) → (List aD) → Option (σ × Bool)) (sg : σ) (t1 : (List aB)) (i3 : Int) (r4 : (List aH)) (f5 : List aD) : Option ((σ × Int) ⊕ (σ ⊕ σ)) :=
  (lp (fun s => iA mD t1 r4 s.1 s.2.1 s.2.2) (sg, i3, f5)).bind (fun rr => pL mD rr.1 t1 rr.2.1 r4 rr.2.2)

noncomputable def fU {σ : Type} (mD : σ → (List aH) → (List aD) → Option (σ × Bool)) (t1 : (List aB)) (sg : σ) (i3 : Int) : Option ((σ × Int) ⊕ (σ ⊕ σ)) :=
  cond (decide (i3 < ((List.length t1 : Nat) : Int)))
  (bI (0 ≤ i3 ∧ i3 < ((List.length t1 : Nat) : Int)) <|
  rC mD sg t1 i3 ((List.getD t1 (Int.toNat i3) default).Row) ([] : List aD))
  (some (.inr (.inl sg)))

noncomputable def rA {σ : Type} (mD : σ → (List aH) → (List aD) → Option (σ × Bool)) (sg : σ) (t1 : (List aB)) (i3 : Int) : Option σ :=
  (lp (fun s => fU mD t1 s.1 s.2) (sg, i3)).bind (Sum.elim (fun rr => some rr) (fun rr => some rr))

noncomputable def oG {σ : Type} (mD : σ → (List aH) → (List aD) → Option (σ × Bool)) (t1 : (List aB)) (sg0 : σ) : Option σ :=
  rA mD sg0 t1 (0 : Int)

noncomputable def dP (f1 : aH → Option Bool)  : Option Int :=
  some (-1 : Int)

noncomputable def fM (f1 : aH → Option Bool) (s0 : (List aH)) (t7 : Int) (t8 : Int) : Option ((Int) ⊕ (Unit ⊕ Int)) :=
  cond (decide (t8 < t7))
  (bI (0 ≤ t8 ∧ t8 < ((List.length s0 : Nat) : Int)) <|
  (f1 (List.getD s0 (Int.toNat t8) default)).bind fun x3 =>
  cond x3
  (some (.inr (.inr t8)))
  (some (.inl (IntKind.i64.wrap (t8 + (1 : Int))))))
  (some (.inr (.inl ())))

noncomputable def fK (f1 : aH → Option Bool) (s0 : (List aH)) (t7 : Int) (t8 : Int) : Option Int :=
  (lp (fun s => fM f1 s0 t7 s) t8).bind (Sum.elim (fun rr => dP f1 ) (fun rr => some rr))

noncomputable def fO (s0 : (List aH)) (f1 : aH → Option Bool) : Option Int :=
  fK f1 s0 ((List.length s0 : Nat) : Int) (0 : Int)

noncomputable def dF (s0 : (List aH)) (f1 : aH → Option Bool) : Option Bool :=
  (fO s0 f1).bind fun x1 =>
  some (decide ((0 : Int) ≤ x1))

noncomputable def lT (v0 : aH) : Option (bH × Bool) :=
  cond ((decide (v0.Kind = (1 : Int))) && (oN v0.Text (⟨#[]⟩ : ByteArray)))
  (some (bH.k_number v0.Num, true))
  (cond (((decide (v0.Kind = (2 : Int))) && (decide (v0.Num = (0 : Int)))) && (decide (((ByteArray.size v0.Text : Nat) : Int) ≤ (64 : Int))))
  (some (bH.k_words v0.Text, true))
  (some (bH.none_, false)))

noncomputable def uD (v0 : aH) : Option Bool :=
  (lT v0).bind fun (x1_0, x1_1) =>
  match x1_0 with
  | .none_ => (some x1_1)
  | .k_number y4 => (some x1_1)
  | .k_words y5 => (some x1_1)

noncomputable def uG (v0 : aH) : Option Bool :=
  (uD v0).bind fun x1 =>
  some (!x1)

noncomputable def qY (r0 : (List aH)) : Option Bool :=
  cond (decide ((8 : Int) < ((List.length r0 : Nat) : Int)))
  (some false)
  ((dF r0 (fun y0 => uG y0)).bind fun x2 =>
  some (!x2))

noncomputable def sO (t0 : (List aH)) : Option ((Int × (List aH))) :=
  some ((-1 : Int), t0)

noncomputable def dD {σ : Type} (f1 : σ → aH → Option (σ × Bool)) (sg : σ) : Option (σ × Int) :=
  some (sg, (-1 : Int))

noncomputable def bW {σ : Type} (f1 : σ → aH → Option (σ × Bool)) (s0 : (List aH)) (t7 : Int) (sg : σ) (t8 : Int) : Option ((σ × Int) ⊕ (σ ⊕ (σ × Int))) :=
  cond (decide (t8 < t7))
  (bI (0 ≤ t8 ∧ t8 < ((List.length s0 : Nat) : Int)) <|
  (f1 sg (List.getD s0 (Int.toNat t8) default)).bind fun x3 =>
  cond x3.2
  (some (.inr (.inr (x3.1, t8))))
  (some (.inl (x3.1, IntKind.i64.wrap (t8 + (1 : Int))))))
  (some (.inr (.inl sg)))

noncomputable def eW {σ : Type} (f1 : σ → aH → Option (σ × Bool)) (sg : σ) (s0 : (List aH)) (t7 : Int) (t8 : Int) : Option (σ × Int) :=
  (lp (fun s => bW f1 s0 t7 s.1 s.2) (sg, t8)).bind (Sum.elim (fun rr => dD f1 rr) (fun rr => some (rr.1, rr.2)))

noncomputable def fE {σ : Type} (s0 : (List aH)) (f1 : σ → aH → Option (σ × Bool)) (sg0 : σ) : Option (σ × Int) :=
  eW f1 sg0 s0 ((List.length s0 : Nat) : Int) (0 : Int)

noncomputable def jH (v0 : aH) (t1 : Int) (t2 : (List aH)) : Option (Bool × Int) :=
  bI (0 ≤ (IntKind.i64.wrap (t1 + (1 : Int))) ∧ (IntKind.i64.wrap (t1 + (1 : Int))) < ((List.length t2 : Nat) : Int)) <|
  some ((!((decide (v0.Kind = ((List.getD t2 (Int.toNat (IntKind.i64.wrap (t1 + (1 : Int)))) default).Kind))) && ((decide (v0.Num = ((List.getD t2 (Int.toNat (IntKind.i64.wrap (t1 + (1 : Int)))) default).Num))) && ((oN v0.Text ((List.getD t2 (Int.toNat (IntKind.i64.wrap (t1 + (1 : Int)))) default).Text)) && true)))), (IntKind.i64.wrap (t1 + (1 : Int))))

noncomputable def oF (x0 : Int) : Option Bool :=
  some (!decide (x0 = x0))

noncomputable def jG (x0 : Int) (y1 : Int) : Option Int :=
  (oF x0).bind fun x1 =>
  (oF y1).bind fun x4 =>
  cond x1
  (cond x4
  (some (0 : Int))
  (some (-1 : Int)))
  (cond x4
  (some (1 : Int))
  (cond (decide (x0 < y1))
  (some (-1 : Int))
  (cond (decide (y1 < x0))
  (some (1 : Int))
  (some (0 : Int)))))

noncomputable def jS (x0 : Int) : Option Bool :=
  some (!decide (x0 = x0))

noncomputable def eB (x0 : Int) (y1 : Int) : Option Int :=
  (jS x0).bind fun x1 =>
  (jS y1).bind fun x4 =>
  cond x1
  (cond x4
  (some (0 : Int))
  (some (-1 : Int)))
  (cond x4
  (some (1 : Int))
  (cond (decide (x0 < y1))
  (some (-1 : Int))
  (cond (decide (y1 < x0))
  (some (1 : Int))
  (some (0 : Int)))))

noncomputable def iF (a0 : ByteArray) (b1 : ByteArray) : Option Int :=
  some (JL a0 b1)

noncomputable def mS (a0 : ByteArray) (b1 : ByteArray) : Option Int :=
  (iF a0 b1).bind fun x1 =>
  some x1

noncomputable def qC (a0 : aH) (b1 : aH) : Option Int :=
  (lT a0).bind fun (x1_0, x1_1) =>
  match x1_0 with
  | .none_ => ((lT b1).bind fun (x6_0, x6_1) =>
  match x6_0 with
  | .none_ => (cond ((!x1_1) || (!x6_1))
  (some (0 : Int))
  (none))
  | .k_number y9 => (cond ((!x1_1) || (!x6_1))
  (some (0 : Int))
  (some (1 : Int)))
  | .k_words y10 => (cond ((!x1_1) || (!x6_1))
  (some (0 : Int))
  (none)))
  | .k_number y4 => ((lT b1).bind fun (x23_0, x23_1) =>
  match x23_0 with
  | .none_ => (cond ((!x1_1) || (!x23_1))
  (some (0 : Int))
  (some (-1 : Int)))
  | .k_number y26 => (cond ((!x1_1) || (!x23_1))
  (some (0 : Int))
  ((eB y4 y26).bind fun x33 =>
  some x33))
  | .k_words y27 => (cond ((!x1_1) || (!x23_1))
  (some (0 : Int))
  (some (-1 : Int))))
  | .k_words y5 => ((lT b1).bind fun (x39_0, x39_1) =>
  match x39_0 with
  | .none_ => (cond ((!x1_1) || (!x39_1))
  (some (0 : Int))
  (none))
  | .k_number y42 => (cond ((!x1_1) || (!x39_1))
  (some (0 : Int))
  (some (1 : Int)))
  | .k_words y43 => (cond ((!x1_1) || (!x39_1))
  (some (0 : Int))
  ((mS y5 y43).bind fun x56 =>
  some x56)))

noncomputable def pV (a0 : (List aH)) (b1 : (List aH)) : Option Int :=
  (qY a0).bind fun x1 =>
  (hU (!(!x1)) (qY b1)).bind fun x4 =>
  cond ((!x1) || (!x4))
  (some (0 : Int))
  (bI (0 ≤ (if ((List.length b1 : Nat) : Int) < ((List.length a0 : Nat) : Int) then ((List.length b1 : Nat) : Int) else ((List.length a0 : Nat) : Int)) ∧ (if ((List.length b1 : Nat) : Int) < ((List.length a0 : Nat) : Int) then ((List.length b1 : Nat) : Int) else ((List.length a0 : Nat) : Int)) ≤ ((List.length a0 : Nat) : Int)) <|
  (sO b1).bind fun x9 =>
  (fE (List.take (Int.toNat (if ((List.length b1 : Nat) : Int) < ((List.length a0 : Nat) : Int) then ((List.length b1 : Nat) : Int) else ((List.length a0 : Nat) : Int))) a0) (fun st y0 => (jH y0 st x9.2).bind fun o => some (o.2, o.1)) x9.1).bind fun x12 =>
  cond (decide (x12.2 < (0 : Int)))
  ((jG ((List.length a0 : Nat) : Int) ((List.length b1 : Nat) : Int)).bind fun x15 =>
  some x15)
  (bI (0 ≤ x12.2 ∧ x12.2 < ((List.length a0 : Nat) : Int)) <|
  bI (0 ≤ x12.2 ∧ x12.2 < ((List.length b1 : Nat) : Int)) <|
  (qC (List.getD a0 (Int.toNat x12.2) default) (List.getD b1 (Int.toNat x12.2) default)).bind fun x20 =>
  some x20))

noncomputable def pJ (tA : (List aD) → Option Bool) (kG : (List aB)) (t4 : Bool) (oT : (List aH)) (jI : Bool) (t14 : (List aH)) (t15 : (List aD)) : Option ((Bool × (List aH) × Bool) ⊕ (Bool × (List aH) × Bool)) :=
  (qY t14).bind fun x7 =>
  (hU (jI && (!(!x7))) (pV oT t14)).bind fun x12 =>
  (hU (!((!x7) || (jI && (decide ((0 : Int) ≤ x12))))) (tA t15)).bind fun x15 =>
  cond (((!x7) || (jI && (decide ((0 : Int) ≤ x12)))) || (!x15))
  (some (.inr (false, oT, jI)))
  (some (.inl (t4, t14, true)))

noncomputable def wI (tA : (List aD) → Option Bool) (t4 : Bool) (oT : (List aH)) (jI : Bool) (kG : (List aB)) : Option Bool :=
  (oG (fun st t14 t15 => rnd (fun (s : Bool × (List aH) × Bool) => pJ tA kG s.1 s.2.1 s.2.2 t14 t15) st) kG (.inl (t4, oT, jI))).bind (Sum.elim (fun (s : Bool × (List aH) × Bool) =>
  (some true))
  (fun (s : Bool × (List aH) × Bool) =>
  (some s.1)))

noncomputable def uH (l0 : (List aB)) (tA : (List aD) → Option Bool) : Option Bool :=
  cond (decide ((4096 : Int) < ((List.length l0 : Nat) : Int)))
  (some false)
  ((rZ l0).bind fun x5 =>
  wI tA false ([]) false x5)

noncomputable def uI (n0 : Int) : Option Bool :=
  some ((decide (n0 ≤ (1048576 : Int))) && (decide ((-1048576 : Int) ≤ n0)))

noncomputable def uM  : Option Bool :=
  some true

noncomputable def mL (t9 : (List aD)) (t10 : Int) (qJ : Int) (t11 : Int) : Option ((Int × Int) ⊕ (Unit ⊕ Bool)) :=
  cond (decide (t11 < t10))
  (bI (0 ≤ t11 ∧ t11 < ((List.length t9 : Nat) : Int)) <|
  (hU (!(((decide (((List.getD t9 (Int.toNat t11) default).At) ≤ qJ)) || (decide ((1125899906842624 : Int) ≤ ((List.getD t9 (Int.toNat t11) default).At)))) || (decide (((List.getD t9 (Int.toNat t11) default).Net) = (0 : Int))))) (uI ((List.getD t9 (Int.toNat t11) default).Net))).bind fun x8 =>
  cond ((((decide (((List.getD t9 (Int.toNat t11) default).At) ≤ qJ)) || (decide ((1125899906842624 : Int) ≤ ((List.getD t9 (Int.toNat t11) default).At)))) || (decide (((List.getD t9 (Int.toNat t11) default).Net) = (0 : Int)))) || (!x8))
  (some (.inr (.inr false)))
  (some (.inl ((List.getD t9 (Int.toNat t11) default).At, IntKind.i64.wrap (t11 + (1 : Int))))))
  (some (.inr (.inl ())))

noncomputable def wW (qJ : Int) (t9 : (List aD)) (t10 : Int) (t11 : Int) : Option Bool :=
  (lp (fun s => mL t9 t10 s.1 s.2) (qJ, t11)).bind (Sum.elim (fun rr => uM ) (fun rr => some rr))

noncomputable def rG (f0 : (List aD)) : Option Bool :=
  cond (decide ((1024 : Int) < ((List.length f0 : Nat) : Int)))
  (some false)
  (wW (-2 : Int) f0 ((List.length f0 : Nat) : Int) (0 : Int))

noncomputable def qA (l0 : (List aB)) : Option Bool :=
  (uH l0 (fun y0 => rG y0)).bind fun x1 =>
  some x1

noncomputable def dG {σ : Type} (f1 : σ → aB → Option (σ × Bool)) (sg : σ) : Option (σ × Int) :=
  some (sg, (-1 : Int))

noncomputable def cH {σ : Type} (f1 : σ → aB → Option (σ × Bool)) (s0 : (List aB)) (t7 : Int) (sg : σ) (t8 : Int) : Option ((σ × Int) ⊕ (σ ⊕ (σ × Int))) :=
  cond (decide (t8 < t7))
  (bI (0 ≤ t8 ∧ t8 < ((List.length s0 : Nat) : Int)) <|
  (f1 sg (List.getD s0 (Int.toNat t8) default)).bind fun x3 =>
  cond x3.2
  (some (.inr (.inr (x3.1, t8))))
  (some (.inl (x3.1, IntKind.i64.wrap (t8 + (1 : Int))))))
  (some (.inr (.inl sg)))

noncomputable def eT {σ : Type} (f1 : σ → aB → Option (σ × Bool)) (sg : σ) (s0 : (List aB)) (t7 : Int) (t8 : Int) : Option (σ × Int) :=
  (lp (fun s => cH f1 s0 t7 s.1 s.2) (sg, t8)).bind (Sum.elim (fun rr => dG f1 rr) (fun rr => some (rr.1, rr.2)))

noncomputable def fD {σ : Type} (s0 : (List aB)) (f1 : σ → aB → Option (σ × Bool)) (sg0 : σ) : Option (σ × Int) :=
  eT f1 sg0 s0 ((List.length s0 : Nat) : Int) (0 : Int)

noncomputable def cW {σ : Type} (s0 : (List aB)) (f1 : σ → aB → Option (σ × Bool)) (sg0 : σ) : Option (σ × Bool) :=
  (fD s0 f1 sg0).bind fun x1 =>
  some (x1.1, decide ((0 : Int) ≤ x1.2))

noncomputable def lP (xs : List aY) (k : Int) (x0 : aB) : Option Bool := some (decide (x0.At < (gD xs k).clock))

noncomputable def iT (s0 : List aB) : Option (List aB) :=
  some s0

noncomputable def fF (n1 : Int) : Option (List aB) :=
  cond (decide (n1 < (0 : Int)))
  (none)
  (cond (decide ((0 : Int) < (IntKind.i64.wrap (n1 - (IntKind.i64.wrap ((0 : Int) - ((0 : Nat) : Int)))))))
  (bI (0 ≤ (0 : Int) ∧ (0 : Int) ≤ ((0 : Nat) : Int)) <|
  bI (0 ≤ (IntKind.i64.wrap (n1 - (IntKind.i64.wrap ((0 : Int) - ((0 : Nat) : Int))))) ∧ Int.toNat (IntKind.i64.wrap (n1 - (IntKind.i64.wrap ((0 : Int) - ((0 : Nat) : Int))))) * 40 ≤ 140737488355328 ∧ (IntKind.i64.wrap (n1 - (IntKind.i64.wrap ((0 : Int) - ((0 : Nat) : Int))))) ≤ 9223372036854775807) <|
  bI (0 ≤ ((0 : Nat) : Int) ∧ ((0 : Nat) : Int) ≤ (((Int.toNat (IntKind.i64.wrap (n1 - (IntKind.i64.wrap ((0 : Int) - ((0 : Nat) : Int)))))) : Nat) : Int)) <|
  iT ([] : List aB))
  (iT ([] : List aB)))

noncomputable def eF (cP : List aB) : Option (List aB) :=
  some cP

noncomputable def cE (t25 : (List (List aB))) (t26 : Int) (cP : List aB) (t27 : Int) : Option ((List aB × Int) ⊕ ((List aB))) :=
  cond (decide (t27 < t26))
  (bI (0 ≤ t27 ∧ t27 < ((List.length t25 : Nat) : Int)) <|
  bI ((List.length cP + List.length (List.getD t25 (Int.toNat t27) default)) * 40 ≤ 140737488355328 ∧ List.length cP + List.length (List.getD t25 (Int.toNat t27) default) ≤ 9223372036854775807) <|
  some (.inl (cP ++ (List.getD t25 (Int.toNat t27) default), IntKind.i64.wrap (t27 + (1 : Int)))))
  (some (.inr cP))

noncomputable def gO (cP : List aB) (t25 : (List (List aB))) (t26 : Int) (t27 : Int) : Option (List aB) :=
  (lp (fun s => cE t25 t26 s.1 s.2) (cP, t27)).bind (fun rr => eF rr)

noncomputable def eD (cS : (List (List aB))) (mG : Int) : Option (List aB) :=
  (fF mG).bind fun x1 =>
  gO x1 cS ((List.length cS : Nat) : Int) (0 : Int)

noncomputable def cD (cS : (List (List aB))) (t9 : (List (List aB))) (t10 : Int) (mG : Int) (t11 : Int) : Option ((Int × Int) ⊕ (Int)) :=
  cond (decide (t11 < t10))
  (bI (0 ≤ t11 ∧ t11 < ((List.length t9 : Nat) : Int)) <|
  cond (decide ((IntKind.i64.wrap (mG + ((List.length (List.getD t9 (Int.toNat t11) default) : Nat) : Int))) < (0 : Int)))
  (none)
  (some (.inl (IntKind.i64.wrap (mG + ((List.length (List.getD t9 (Int.toNat t11) default) : Nat) : Int)), IntKind.i64.wrap (t11 + (1 : Int))))))
  (some (.inr mG))

noncomputable def gN (cS : (List (List aB))) (mG : Int) (t9 : (List (List aB))) (t10 : Int) (t11 : Int) : Option (List aB) :=
  (lp (fun s => cD cS t9 t10 s.1 s.2) (mG, t11)).bind (fun rr => eD cS rr)

noncomputable def eM (cS : (List (List aB))) : Option (List aB) :=
  gN cS (0 : Int) cS ((List.length cS : Nat) : Int) (0 : Int)

noncomputable def dQ (f1 : aB → Option Bool)  : Option Int :=
  some (-1 : Int)

noncomputable def fI (f1 : aB → Option Bool) (s0 : (List aB)) (t7 : Int) (t8 : Int) : Option ((Int) ⊕ (Unit ⊕ Int)) :=
  cond (decide (t8 < t7))
  (bI (0 ≤ t8 ∧ t8 < ((List.length s0 : Nat) : Int)) <|
  (f1 (List.getD s0 (Int.toNat t8) default)).bind fun x3 =>
  cond x3
  (some (.inr (.inr t8)))
  (some (.inl (IntKind.i64.wrap (t8 + (1 : Int))))))
  (some (.inr (.inl ())))

noncomputable def fL (f1 : aB → Option Bool) (s0 : (List aB)) (t7 : Int) (t8 : Int) : Option Int :=
  (lp (fun s => fI f1 s0 t7 s) t8).bind (Sum.elim (fun rr => dQ f1 ) (fun rr => some rr))

noncomputable def fR (s0 : (List aB)) (f1 : aB → Option Bool) : Option Int :=
  fL f1 s0 ((List.length s0 : Nat) : Int) (0 : Int)

noncomputable def cN (s0 : (List aB)) (f1 : aB → Option Bool) : Option Bool :=
  (fR s0 f1).bind fun x1 =>
  some (decide ((0 : Int) ≤ x1))

noncomputable def rN (x0 : aB) : Option Bool :=
  (qY x0.Row).bind fun x1 =>
  some (((!x1) || (decide ((1048576 : Int) < x0.Net))) || (decide (x0.Net < (-1048576 : Int))))

noncomputable def rR (x0 : aB) : Option Bool :=
  some ((decide (x0.At < (-1 : Int))) || (decide ((1125899906842624 : Int) < x0.At)))

noncomputable def fC (s0 : (List aB)) : Option (List aB) :=
  bI (List.length s0 * 40 ≤ 140737488355328 ∧ List.length s0 ≤ 9223372036854775807) <|
  some s0

noncomputable def eV (cmp3 : aB → aB → Option Int) (aA : List aB) (a1 : Int) (b2 : Int) (i8 : Int) : Option ((List aB × Int) ⊕ ((List aB))) :=
  some (.inl (aA, IntKind.i64.wrap (i8 + (1 : Int))))

noncomputable def iW (cmp3 : aB → aB → Option Int) (a1 : Int) (b2 : Int) (i8 : Int) (aA : List aB) (j9 : Int) : Option ((List aB × Int) ⊕ ((List aB))) :=
  bI ((((decide (a1 < j9))) = true → 0 ≤ j9 ∧ j9 < ((List.length aA : Nat) : Int))) <|
  bI ((((decide (a1 < j9))) = true → 0 ≤ (IntKind.i64.wrap (j9 - (1 : Int))) ∧ (IntKind.i64.wrap (j9 - (1 : Int))) < ((List.length aA : Nat) : Int))) <|
  (hU (decide (a1 < j9)) (cmp3 (List.getD aA (Int.toNat j9) default) (List.getD aA (Int.toNat (IntKind.i64.wrap (j9 - (1 : Int)))) default))).bind fun x4 =>
  cond ((decide (a1 < j9)) && (decide (x4 < (0 : Int))))
  (bI (0 ≤ (IntKind.i64.wrap (j9 - (1 : Int))) ∧ (IntKind.i64.wrap (j9 - (1 : Int))) < ((List.length aA : Nat) : Int)) <|
  bI (0 ≤ j9 ∧ j9 < ((List.length aA : Nat) : Int)) <|
  bI (0 ≤ j9 ∧ j9 < ((List.length aA : Nat) : Int)) <|
  bI (0 ≤ (IntKind.i64.wrap (j9 - (1 : Int))) ∧ (IntKind.i64.wrap (j9 - (1 : Int))) < ((List.length aA : Nat) : Int)) <|
  some (.inl (List.set (List.set aA (Int.toNat j9) (List.getD aA (Int.toNat (IntKind.i64.wrap (j9 - (1 : Int)))) default)) (Int.toNat (IntKind.i64.wrap (j9 - (1 : Int)))) (List.getD aA (Int.toNat j9) default), IntKind.i64.wrap (j9 - (1 : Int)))))
  (some (.inr aA))

noncomputable def iZ (cmp3 : aB → aB → Option Int) (aA : List aB) (a1 : Int) (b2 : Int) (i8 : Int) (j9 : Int) : Option ((List aB × Int) ⊕ ((List aB))) :=
  (lp (fun s => iW cmp3 a1 b2 i8 s.1 s.2) (aA, j9)).bind (fun rr => eV cmp3 rr a1 b2 i8)

noncomputable def jB (cmp3 : aB → aB → Option Int) (a1 : Int) (b2 : Int) (aA : List aB) (i8 : Int) : Option ((List aB × Int) ⊕ ((List aB))) :=
  cond (decide (i8 < b2))
  (iZ cmp3 aA a1 b2 i8 i8)
  (some (.inr aA))

noncomputable def iY (cmp3 : aB → aB → Option Int) (aA : List aB) (a1 : Int) (b2 : Int) (i8 : Int) : Option (List aB) :=
  (lp (fun s => jB cmp3 a1 b2 s.1 s.2) (aA, i8)).bind (fun rr => some rr)

noncomputable def dK (aA : (List aB)) (a1 : Int) (b2 : Int) (cmp3 : aB → aB → Option Int) : Option (List aB) :=
  iY cmp3 aA a1 b2 (IntKind.i64.wrap (a1 + (1 : Int)))

noncomputable def kT (cmp4 : aB → aB → Option Int) (a1 : Int) (b2 : Int) (n3 : Int) (aA : List aB) (i10 : Int) : Option ((List aB × Int) ⊕ ((List aB))) :=
  cond (decide (i10 < n3))
  (bI (0 ≤ (IntKind.i64.wrap (b2 + i10)) ∧ (IntKind.i64.wrap (b2 + i10)) < ((List.length aA : Nat) : Int)) <|
  bI (0 ≤ (IntKind.i64.wrap (a1 + i10)) ∧ (IntKind.i64.wrap (a1 + i10)) < ((List.length aA : Nat) : Int)) <|
  bI (0 ≤ (IntKind.i64.wrap (a1 + i10)) ∧ (IntKind.i64.wrap (a1 + i10)) < ((List.length aA : Nat) : Int)) <|
  bI (0 ≤ (IntKind.i64.wrap (b2 + i10)) ∧ (IntKind.i64.wrap (b2 + i10)) < ((List.length aA : Nat) : Int)) <|
  some (.inl (List.set (List.set aA (Int.toNat (IntKind.i64.wrap (a1 + i10))) (List.getD aA (Int.toNat (IntKind.i64.wrap (b2 + i10))) default)) (Int.toNat (IntKind.i64.wrap (b2 + i10))) (List.getD aA (Int.toNat (IntKind.i64.wrap (a1 + i10))) default), IntKind.i64.wrap (i10 + (1 : Int)))))
  (some (.inr aA))

noncomputable def jY (cmp4 : aB → aB → Option Int) (aA : List aB) (a1 : Int) (b2 : Int) (n3 : Int) (i10 : Int) : Option (List aB) :=
  (lp (fun s => kT cmp4 a1 b2 n3 s.1 s.2) (aA, i10)).bind (fun rr => some rr)

noncomputable def eG (aA : (List aB)) (a1 : Int) (b2 : Int) (n3 : Int) (cmp4 : aB → aB → Option Int) : Option (List aB) :=
  jY cmp4 aA a1 b2 n3 (0 : Int)

noncomputable def iE (cmp4 : aB → aB → Option Int) (aA : List aB) (m2 : Int) (i10 : Int) : Option (List aB) :=
  (eG aA (IntKind.i64.wrap (m2 - i10)) m2 i10 cmp4).bind fun x1 =>
  some x1

noncomputable def lW (cmp4 : aB → aB → Option Int) (m2 : Int) (aA : List aB) (i10 : Int) (j11 : Int) : Option ((List aB × Int × Int) ⊕ ((List aB × Int))) :=
  cond (!decide (i10 = j11))
  (cond (decide (j11 < i10))
  ((eG aA (IntKind.i64.wrap (m2 - i10)) m2 j11 cmp4).bind fun x6 =>
  some (.inl (x6, IntKind.i64.wrap (i10 - j11), j11)))
  ((eG aA (IntKind.i64.wrap (m2 - i10)) (IntKind.i64.wrap ((IntKind.i64.wrap (m2 + j11)) - i10)) i10 cmp4).bind fun x9 =>
  some (.inl (x9, i10, IntKind.i64.wrap (j11 - i10)))))
  (some (.inr (aA, i10)))

noncomputable def lX (cmp4 : aB → aB → Option Int) (aA : List aB) (m2 : Int) (i10 : Int) (j11 : Int) : Option (List aB) :=
  (lp (fun s => lW cmp4 m2 s.1 s.2.1 s.2.2) (aA, i10, j11)).bind (fun rr => iE cmp4 rr.1 m2 rr.2)

noncomputable def mH (aA : (List aB)) (a1 : Int) (m2 : Int) (b3 : Int) (cmp4 : aB → aB → Option Int) : Option (List aB) :=
  lX cmp4 aA m2 (IntKind.i64.wrap (m2 - a1)) (IntKind.i64.wrap (b3 - m2))

noncomputable def gJ (cmp4 : aB → aB → Option Int) (rec : (List aB) → Int → Int → Int → Option (List aB)) (aA : List aB) (b3 : Int) (bR : Int) (dX : Int) : Option (List aB) :=
  cond ((decide (bR < dX)) && (decide (dX < b3)))
  ((rec aA bR dX b3).bind fun x3 =>
  some x3)
  (some aA)

noncomputable def gM (cmp4 : aB → aB → Option Int) (rec : (List aB) → Int → Int → Int → Option (List aB)) (aA : List aB) (a1 : Int) (b3 : Int) (bR : Int) (aQ : Int) (dX : Int) : Option (List aB) :=
  cond ((decide (a1 < aQ)) && (decide (aQ < bR)))
  ((rec aA a1 aQ bR).bind fun x7 =>
  gJ cmp4 rec x7 b3 bR dX)
  (gJ cmp4 rec aA b3 bR dX)

noncomputable def gL (cmp4 : aB → aB → Option Int) (rec : (List aB) → Int → Int → Int → Option (List aB)) (aA : List aB) (a1 : Int) (m2 : Int) (b3 : Int) (bR : Int) (n19 : Int) (aQ : Int) : Option (List aB) :=
  cond ((decide (aQ < m2)) && (decide (m2 < (IntKind.i64.wrap (n19 - aQ)))))
  ((mH aA aQ m2 (IntKind.i64.wrap (n19 - aQ)) cmp4).bind fun x11 =>
  gM cmp4 rec x11 a1 b3 bR aQ (IntKind.i64.wrap (n19 - aQ)))
  (gM cmp4 rec aA a1 b3 bR aQ (IntKind.i64.wrap (n19 - aQ)))

noncomputable def lK (cmp4 : aB → aB → Option Int) (rec : (List aB) → Int → Int → Int → Option (List aB)) (a1 : Int) (m2 : Int) (b3 : Int) (bR : Int) (n19 : Int) (p22 : Int) (aA : List aB) (aQ : Int) (r21 : Int) : Option ((List aB × Int × Int) ⊕ ((List aB × Int))) :=
  cond (decide (aQ < r21))
  (bI (0 ≤ (1 : Int)) <|
  bI (0 ≤ (IntKind.i64.wrap (p22 - (IntKind.i64.wrap (Int.fdiv (IntKind.u64.wrap (IntKind.i64.wrap (aQ + r21))) (2 ^ (min (Int.toNat (1 : Int)) 64)))))) ∧ (IntKind.i64.wrap (p22 - (IntKind.i64.wrap (Int.fdiv (IntKind.u64.wrap (IntKind.i64.wrap (aQ + r21))) (2 ^ (min (Int.toNat (1 : Int)) 64)))))) < ((List.length aA : Nat) : Int)) <|
  bI (0 ≤ (IntKind.i64.wrap (Int.fdiv (IntKind.u64.wrap (IntKind.i64.wrap (aQ + r21))) (2 ^ (min (Int.toNat (1 : Int)) 64)))) ∧ (IntKind.i64.wrap (Int.fdiv (IntKind.u64.wrap (IntKind.i64.wrap (aQ + r21))) (2 ^ (min (Int.toNat (1 : Int)) 64)))) < ((List.length aA : Nat) : Int)) <|
  (cmp4 (List.getD aA (Int.toNat (IntKind.i64.wrap (p22 - (IntKind.i64.wrap (Int.fdiv (IntKind.u64.wrap (IntKind.i64.wrap (aQ + r21))) (2 ^ (min (Int.toNat (1 : Int)) 64))))))) default) (List.getD aA (Int.toNat (IntKind.i64.wrap (Int.fdiv (IntKind.u64.wrap (IntKind.i64.wrap (aQ + r21))) (2 ^ (min (Int.toNat (1 : Int)) 64))))) default)).bind fun x18 =>
  cond (!(decide (x18 < (0 : Int))))
  (some (.inl (aA, IntKind.i64.wrap ((IntKind.i64.wrap (Int.fdiv (IntKind.u64.wrap (IntKind.i64.wrap (aQ + r21))) (2 ^ (min (Int.toNat (1 : Int)) 64)))) + (1 : Int)), r21)))
  (some (.inl (aA, aQ, IntKind.i64.wrap (Int.fdiv (IntKind.u64.wrap (IntKind.i64.wrap (aQ + r21))) (2 ^ (min (Int.toNat (1 : Int)) 64)))))))
  (some (.inr (aA, aQ)))

noncomputable def lA (cmp4 : aB → aB → Option Int) (rec : (List aB) → Int → Int → Int → Option (List aB)) (aA : List aB) (a1 : Int) (m2 : Int) (b3 : Int) (bR : Int) (n19 : Int) (aQ : Int) (r21 : Int) (p22 : Int) : Option (List aB) :=
  (lp (fun s => lK cmp4 rec a1 m2 b3 bR n19 p22 s.1 s.2.1 s.2.2) (aA, aQ, r21)).bind (fun rr => gL cmp4 rec rr.1 a1 m2 b3 bR n19 rr.2)

noncomputable def gH (cmp4 : aB → aB → Option Int) (rec : (List aB) → Int → Int → Int → Option (List aB)) (aA : List aB) (a1 : Int) (m2 : Int) (b3 : Int) (bR : Int) (n19 : Int) (aQ : Int) (r21 : Int) : Option (List aB) :=
  lA cmp4 rec aA a1 m2 b3 bR n19 aQ r21 (IntKind.i64.wrap (n19 - (1 : Int)))

noncomputable def lC (cmp4 : aB → aB → Option Int) (rec : (List aB) → Int → Int → Int → Option (List aB)) (aA : List aB) (a1 : Int) (m2 : Int) (b3 : Int) : Option (List aB) :=
  bI (0 ≤ (1 : Int)) <|
  cond (decide ((IntKind.i64.wrap (Int.fdiv (IntKind.u64.wrap (IntKind.i64.wrap (a1 + b3))) (2 ^ (min (Int.toNat (1 : Int)) 64)))) < m2))
  (gH cmp4 rec aA a1 m2 b3 (IntKind.i64.wrap (Int.fdiv (IntKind.u64.wrap (IntKind.i64.wrap (a1 + b3))) (2 ^ (min (Int.toNat (1 : Int)) 64)))) (IntKind.i64.wrap ((IntKind.i64.wrap (Int.fdiv (IntKind.u64.wrap (IntKind.i64.wrap (a1 + b3))) (2 ^ (min (Int.toNat (1 : Int)) 64)))) + m2)) (IntKind.i64.wrap ((IntKind.i64.wrap ((IntKind.i64.wrap (Int.fdiv (IntKind.u64.wrap (IntKind.i64.wrap (a1 + b3))) (2 ^ (min (Int.toNat (1 : Int)) 64)))) + m2)) - b3)) (IntKind.i64.wrap (Int.fdiv (IntKind.u64.wrap (IntKind.i64.wrap (a1 + b3))) (2 ^ (min (Int.toNat (1 : Int)) 64)))))
  (gH cmp4 rec aA a1 m2 b3 (IntKind.i64.wrap (Int.fdiv (IntKind.u64.wrap (IntKind.i64.wrap (a1 + b3))) (2 ^ (min (Int.toNat (1 : Int)) 64)))) (IntKind.i64.wrap ((IntKind.i64.wrap (Int.fdiv (IntKind.u64.wrap (IntKind.i64.wrap (a1 + b3))) (2 ^ (min (Int.toNat (1 : Int)) 64)))) + m2)) a1 m2)

noncomputable def gP (cmp4 : aB → aB → Option Int) (rec : (List aB) → Int → Int → Int → Option (List aB)) (aA : List aB) : Option (List aB) :=
  some aA

noncomputable def kO (cmp4 : aB → aB → Option Int) (rec : (List aB) → Int → Int → Int → Option (List aB)) (i14 : Int) (aA : List aB) (k17 : Int) : Option ((List aB × Int) ⊕ ((List aB))) :=
  cond (decide (i14 < k17))
  (bI (0 ≤ (IntKind.i64.wrap (k17 - (1 : Int))) ∧ (IntKind.i64.wrap (k17 - (1 : Int))) < ((List.length aA : Nat) : Int)) <|
  bI (0 ≤ k17 ∧ k17 < ((List.length aA : Nat) : Int)) <|
  bI (0 ≤ k17 ∧ k17 < ((List.length aA : Nat) : Int)) <|
  bI (0 ≤ (IntKind.i64.wrap (k17 - (1 : Int))) ∧ (IntKind.i64.wrap (k17 - (1 : Int))) < ((List.length aA : Nat) : Int)) <|
  some (.inl (List.set (List.set aA (Int.toNat k17) (List.getD aA (Int.toNat (IntKind.i64.wrap (k17 - (1 : Int)))) default)) (Int.toNat (IntKind.i64.wrap (k17 - (1 : Int)))) (List.getD aA (Int.toNat k17) default), IntKind.i64.wrap (k17 - (1 : Int)))))
  (some (.inr aA))

noncomputable def kA (cmp4 : aB → aB → Option Int) (rec : (List aB) → Int → Int → Int → Option (List aB)) (aA : List aB) (i14 : Int) (k17 : Int) : Option (List aB) :=
  (lp (fun s => kO cmp4 rec i14 s.1 s.2) (aA, k17)).bind (fun rr => gP cmp4 rec rr)

noncomputable def gW (cmp4 : aB → aB → Option Int) (rec : (List aB) → Int → Int → Int → Option (List aB)) (aA : List aB) (m2 : Int) (i14 : Int) : Option (List aB) :=
  kA cmp4 rec aA i14 m2

noncomputable def jZ (cmp4 : aB → aB → Option Int) (rec : (List aB) → Int → Int → Int → Option (List aB)) (m2 : Int) (aA : List aB) (i14 : Int) (j15 : Int) : Option ((List aB × Int × Int) ⊕ ((List aB × Int))) :=
  cond (decide (i14 < j15))
  (bI (0 ≤ (1 : Int)) <|
  bI (0 ≤ m2 ∧ m2 < ((List.length aA : Nat) : Int)) <|
  bI (0 ≤ (IntKind.i64.wrap (Int.fdiv (IntKind.u64.wrap (IntKind.i64.wrap (i14 + j15))) (2 ^ (min (Int.toNat (1 : Int)) 64)))) ∧ (IntKind.i64.wrap (Int.fdiv (IntKind.u64.wrap (IntKind.i64.wrap (i14 + j15))) (2 ^ (min (Int.toNat (1 : Int)) 64)))) < ((List.length aA : Nat) : Int)) <|
  (cmp4 (List.getD aA (Int.toNat m2) default) (List.getD aA (Int.toNat (IntKind.i64.wrap (Int.fdiv (IntKind.u64.wrap (IntKind.i64.wrap (i14 + j15))) (2 ^ (min (Int.toNat (1 : Int)) 64))))) default)).bind fun x33 =>
  cond (!(decide (x33 < (0 : Int))))
  (some (.inl (aA, IntKind.i64.wrap ((IntKind.i64.wrap (Int.fdiv (IntKind.u64.wrap (IntKind.i64.wrap (i14 + j15))) (2 ^ (min (Int.toNat (1 : Int)) 64)))) + (1 : Int)), j15)))
  (some (.inl (aA, i14, IntKind.i64.wrap (Int.fdiv (IntKind.u64.wrap (IntKind.i64.wrap (i14 + j15))) (2 ^ (min (Int.toNat (1 : Int)) 64)))))))
  (some (.inr (aA, i14)))

noncomputable def kN (cmp4 : aB → aB → Option Int) (rec : (List aB) → Int → Int → Int → Option (List aB)) (aA : List aB) (m2 : Int) (i14 : Int) (j15 : Int) : Option (List aB) :=
  (lp (fun s => jZ cmp4 rec m2 s.1 s.2.1 s.2.2) (aA, i14, j15)).bind (fun rr => gW cmp4 rec rr.1 m2 rr.2)

noncomputable def kW (cmp4 : aB → aB → Option Int) (rec : (List aB) → Int → Int → Int → Option (List aB)) (aA : List aB) (a1 : Int) (m2 : Int) (b3 : Int) : Option (List aB) :=
  cond (decide ((IntKind.i64.wrap (b3 - m2)) = (1 : Int)))
  (kN cmp4 rec aA m2 a1 m2)
  (lC cmp4 rec aA a1 m2 b3)

noncomputable def gC (cmp4 : aB → aB → Option Int) (rec : (List aB) → Int → Int → Int → Option (List aB)) (aA : List aB) : Option (List aB) :=
  some aA

noncomputable def kV (cmp4 : aB → aB → Option Int) (rec : (List aB) → Int → Int → Int → Option (List aB)) (i10 : Int) (aA : List aB) (k13 : Int) : Option ((List aB × Int) ⊕ ((List aB))) :=
  cond (decide (k13 < (IntKind.i64.wrap (i10 - (1 : Int)))))
  (bI (0 ≤ (IntKind.i64.wrap (k13 + (1 : Int))) ∧ (IntKind.i64.wrap (k13 + (1 : Int))) < ((List.length aA : Nat) : Int)) <|
  bI (0 ≤ k13 ∧ k13 < ((List.length aA : Nat) : Int)) <|
  bI (0 ≤ k13 ∧ k13 < ((List.length aA : Nat) : Int)) <|
  bI (0 ≤ (IntKind.i64.wrap (k13 + (1 : Int))) ∧ (IntKind.i64.wrap (k13 + (1 : Int))) < ((List.length aA : Nat) : Int)) <|
  some (.inl (List.set (List.set aA (Int.toNat k13) (List.getD aA (Int.toNat (IntKind.i64.wrap (k13 + (1 : Int)))) default)) (Int.toNat (IntKind.i64.wrap (k13 + (1 : Int)))) (List.getD aA (Int.toNat k13) default), IntKind.i64.wrap (k13 + (1 : Int)))))
  (some (.inr aA))

noncomputable def kS (cmp4 : aB → aB → Option Int) (rec : (List aB) → Int → Int → Int → Option (List aB)) (aA : List aB) (i10 : Int) (k13 : Int) : Option (List aB) :=
  (lp (fun s => kV cmp4 rec i10 s.1 s.2) (aA, k13)).bind (fun rr => gC cmp4 rec rr)

noncomputable def fW (cmp4 : aB → aB → Option Int) (rec : (List aB) → Int → Int → Int → Option (List aB)) (aA : List aB) (a1 : Int) (i10 : Int) : Option (List aB) :=
  kS cmp4 rec aA i10 a1

noncomputable def kJ (cmp4 : aB → aB → Option Int) (rec : (List aB) → Int → Int → Int → Option (List aB)) (a1 : Int) (aA : List aB) (i10 : Int) (j11 : Int) : Option ((List aB × Int × Int) ⊕ ((List aB × Int))) :=
  cond (decide (i10 < j11))
  (bI (0 ≤ (1 : Int)) <|
  bI (0 ≤ (IntKind.i64.wrap (Int.fdiv (IntKind.u64.wrap (IntKind.i64.wrap (i10 + j11))) (2 ^ (min (Int.toNat (1 : Int)) 64)))) ∧ (IntKind.i64.wrap (Int.fdiv (IntKind.u64.wrap (IntKind.i64.wrap (i10 + j11))) (2 ^ (min (Int.toNat (1 : Int)) 64)))) < ((List.length aA : Nat) : Int)) <|
  bI (0 ≤ a1 ∧ a1 < ((List.length aA : Nat) : Int)) <|
  (cmp4 (List.getD aA (Int.toNat (IntKind.i64.wrap (Int.fdiv (IntKind.u64.wrap (IntKind.i64.wrap (i10 + j11))) (2 ^ (min (Int.toNat (1 : Int)) 64))))) default) (List.getD aA (Int.toNat a1) default)).bind fun x47 =>
  cond (decide (x47 < (0 : Int)))
  (some (.inl (aA, IntKind.i64.wrap ((IntKind.i64.wrap (Int.fdiv (IntKind.u64.wrap (IntKind.i64.wrap (i10 + j11))) (2 ^ (min (Int.toNat (1 : Int)) 64)))) + (1 : Int)), j11)))
  (some (.inl (aA, i10, IntKind.i64.wrap (Int.fdiv (IntKind.u64.wrap (IntKind.i64.wrap (i10 + j11))) (2 ^ (min (Int.toNat (1 : Int)) 64)))))))
  (some (.inr (aA, i10)))

noncomputable def kL (cmp4 : aB → aB → Option Int) (rec : (List aB) → Int → Int → Int → Option (List aB)) (aA : List aB) (a1 : Int) (i10 : Int) (j11 : Int) : Option (List aB) :=
  (lp (fun s => kJ cmp4 rec a1 s.1 s.2.1 s.2.2) (aA, i10, j11)).bind (fun rr => fW cmp4 rec rr.1 a1 rr.2)

noncomputable def dV (cmp4 : aB → aB → Option Int) (rec : (List aB) → Int → Int → Int → Option (List aB)) (aA : (List aB)) (a1 : Int) (m2 : Int) (b3 : Int) : Option (List aB) :=
  cond (decide ((IntKind.i64.wrap (m2 - a1)) = (1 : Int)))
  (kL cmp4 rec aA a1 m2 b3)
  (kW cmp4 rec aA a1 m2 b3)

noncomputable def gV (cmp4 : aB → aB → Option Int) : Nat → (List aB) → Int → Int → Int → Option (List aB)
  | 0 => fun _ _ _ _ => none
  | k + 1 => dV cmp4 (gV cmp4 k)

noncomputable def eO (aA : (List aB)) (a1 : Int) (m2 : Int) (b3 : Int) (cmp4 : aB → aB → Option Int) : Option (List aB) := GZ (fun k => gV cmp4 k aA a1 m2 b3)

noncomputable def iG (cmp2 : aB → aB → Option Int) (aA : List aB) (n1 : Int) (aM : Int) : Option ((List aB × Int) ⊕ ((List aB))) :=
  some (.inl (aA, IntKind.i64.wrap (aM * (2 : Int))))

noncomputable def eY (cmp2 : aB → aB → Option Int) (aA : List aB) (n1 : Int) (aM : Int) (a7 : Int) : Option ((List aB × Int) ⊕ ((List aB))) :=
  cond (decide ((IntKind.i64.wrap (a7 + aM)) < n1))
  ((eO aA a7 (IntKind.i64.wrap (a7 + aM)) n1 cmp2).bind fun x6 =>
  iG cmp2 x6 n1 aM)
  (iG cmp2 aA n1 aM)

noncomputable def iR (cmp2 : aB → aB → Option Int) (n1 : Int) (aM : Int) (aA : List aB) (a7 : Int) (b8 : Int) : Option ((List aB × Int × Int) ⊕ ((List aB × Int))) :=
  cond (decide (b8 ≤ n1))
  ((eO aA a7 (IntKind.i64.wrap (a7 + aM)) b8 cmp2).bind fun x10 =>
  some (.inl (x10, b8, IntKind.i64.wrap (b8 + (IntKind.i64.wrap ((2 : Int) * aM))))))
  (some (.inr (aA, a7)))

noncomputable def iS (cmp2 : aB → aB → Option Int) (aA : List aB) (n1 : Int) (aM : Int) (a7 : Int) (b8 : Int) : Option ((List aB × Int) ⊕ ((List aB))) :=
  (lp (fun s => iR cmp2 n1 aM s.1 s.2.1 s.2.2) (aA, a7, b8)).bind (fun rr => eY cmp2 rr.1 n1 aM rr.2)

noncomputable def iU (cmp2 : aB → aB → Option Int) (n1 : Int) (aA : List aB) (aM : Int) : Option ((List aB × Int) ⊕ ((List aB))) :=
  cond (decide (aM < n1))
  (iS cmp2 aA n1 aM (0 : Int) (IntKind.i64.wrap ((2 : Int) * aM)))
  (some (.inr aA))

noncomputable def iM (cmp2 : aB → aB → Option Int) (aA : List aB) (n1 : Int) (aM : Int) : Option (List aB) :=
  (lp (fun s => iU cmp2 n1 s.1 s.2) (aA, aM)).bind (fun rr => some rr)

noncomputable def fB (cmp2 : aB → aB → Option Int) (aA : List aB) (n1 : Int) (aM : Int) (a7 : Int) : Option (List aB) :=
  (dK aA a7 n1 cmp2).bind fun x1 =>
  iM cmp2 x1 n1 aM

noncomputable def iJ (cmp2 : aB → aB → Option Int) (n1 : Int) (aM : Int) (aA : List aB) (a7 : Int) (b8 : Int) : Option ((List aB × Int × Int) ⊕ ((List aB × Int))) :=
  cond (decide (b8 ≤ n1))
  ((dK aA a7 b8 cmp2).bind fun x14 =>
  some (.inl (x14, b8, IntKind.i64.wrap (b8 + aM))))
  (some (.inr (aA, a7)))

noncomputable def iK (cmp2 : aB → aB → Option Int) (aA : List aB) (n1 : Int) (aM : Int) (a7 : Int) (b8 : Int) : Option (List aB) :=
  (lp (fun s => iJ cmp2 n1 aM s.1 s.2.1 s.2.2) (aA, a7, b8)).bind (fun rr => fB cmp2 rr.1 n1 aM rr.2)

noncomputable def fH (aA : (List aB)) (n1 : Int) (cmp2 : aB → aB → Option Int) : Option (List aB) :=
  iK cmp2 aA n1 (20 : Int) (0 : Int) (20 : Int)

noncomputable def cV (x0 : (List aB)) (cmp1 : aB → aB → Option Int) : Option (List aB) :=
  (fH x0 ((List.length x0 : Nat) : Int) cmp1).bind fun x1 =>
  some x1

noncomputable def rO (nU : Int) : Option Int :=
  some nU

noncomputable def gX (nU : Int) (t6 : (List Int)) (t7 : Int) (t8 : Int) : Option ((Int) ⊕ (Unit ⊕ Int)) :=
  cond (decide (t8 < t7))
  (bI (0 ≤ t8 ∧ t8 < ((List.length t6 : Nat) : Int)) <|
  cond (!decide ((List.getD t6 (Int.toNat t8) default) = nU))
  (some (.inr (.inr (List.getD t6 (Int.toNat t8) default))))
  (some (.inl (IntKind.i64.wrap (t8 + (1 : Int))))))
  (some (.inr (.inl ())))

noncomputable def uU (nU : Int) (t6 : (List Int)) (t7 : Int) (t8 : Int) : Option Int :=
  (lp (fun s => gX nU t6 t7 s) t8).bind (Sum.elim (fun rr => rO nU) (fun rr => some rr))

end Go.Abs
