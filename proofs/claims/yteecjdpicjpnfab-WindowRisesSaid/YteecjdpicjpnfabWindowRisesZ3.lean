/- What the law WindowRises stands on: the framework, the given functions as plain functions, their walks, and the plain laws; part 3. -/
import Derived.Test.YteecjdpicjpnfabWindowRisesZ2
set_option linter.unusedSimpArgs false
set_option linter.unusedVariables false
namespace Go.Abs
open Go Go.RowKit Go.MapKept
variable {P : Program} {H : aT} {K : V → aT → Prop}
theorem aM.aFA {H0 : aT} {E : List Nat} {M G : Gs} {L R : OL} (h : aM ⟨H0, E, M ++ G⟩ H (L ++ R)) : aM ⟨H0, E, M ++ (up R ++ G)⟩ H L := by
  have h1 : aM ⟨H0, E, up R ++ (M ++ G)⟩ H L := h.part
  exact h1.pP (by rw [← List.append_assoc, ← List.append_assoc]; exact List.Perm.append_right _ List.perm_append_comm)

theorem aM.aFy {H0 : aT} {E : List Nat} {M G : Gs} {L R : OL} (h : aM ⟨H0, E, M ++ (up R ++ G)⟩ H L) : aM ⟨H0, E, M ++ G⟩ H (L ++ R) := by
  have h1 : aM ⟨H0, E, up R ++ (M ++ G)⟩ H L := h.pP (by rw [← List.append_assoc, ← List.append_assoc]; exact List.Perm.append_right _ List.perm_append_comm)
  exact aM.glue (F := ⟨H0, E, M ++ G⟩) h1

theorem aFD {tt : TT} {N : Nat} {T : Env} {ops : Array Oper} {K : Env → aT → Prop} {i n : Nat} {H0 : aT} {E : List Nat} {G : Gs} {L0 L : OL} {Post : V → Gs → OL → Prop} {fid : Nat} {as0 : List V} (M : Gs) (R : OL) (ix : List Nat) (hc : aDN P fid as0 M L Post) (hO : aM ⟨H0, E, M ++ G⟩ H L0)
    (h : ∀ x M' L' H', Post x M' L' → aM ⟨H0, E, M' ++ G⟩ H' (L' ++ R) → RWs P tt N ops (aL (i + 1) n) (T.bQ (cN ops i) ([], x)) H' K) (hnd : ix.Nodup := by decide) (hp : ix.map (fun i => L0[i]?) = (L ++ R).map some := by kernel_rfl)
    (hs : aL i n = i :: aL (i + 1) n := by kernel_rfl) (hd : nO N ops T i = some (fid, as0) := by kernel_rfl) : RWs P tt N ops (aL i n) T H K :=
  HO hs hd (hc ⟨H0, E, up R ++ G⟩ H (hO.pick ix hnd hp).aFA) fun _ H' ⟨M', L', hP, hO'⟩ => h _ M' L' H' hP hO'.aFy

section ends
variable {fn : Func} {T : Env} {H : aT} {H0 : aT} {E : List Nat} {G M : Gs} {Post : V → Gs → OL → Prop} {x : V} {L : OL}
end ends
end Go.Abs
namespace Go.Abs
open Go Go.RowKit
variable {P : Program} {tt : TT} {g : Gh} {w : World} {H : aT}
theorem aBu {N : Nat} {c : Code} {l : List (Nat × V)} {ds : List Nat} {Q : Exit → Env → aT → List Nat → Prop} {fid : Nat} {ys cs : List V} {b0 l0 : Nat} {A0 : rN} {st0 : LoopState} {pe0 : Option Code} (h0 : H[l0]? = some (.raw (gL b0 A0 st0 pe0)))
    (hk : c.kind = 9) (hf : cE (Env.ofL l) [] c.cnd = some (.fn (.func fid) ys cs)) {ps : Array Tmp} (hps : c.rps = ps)
    (h : ∀ b, lU P fid (ys ++ [yv b] ++ cs) (H ++ [.raw (gL b ⟨N, l, ps, c.asg, c.b⟩ .ready none)]) (fun _ H' => ∃ st pe, H'[H.length]? = some (.raw (gL b ⟨N, l, ps, c.asg, c.b⟩ st pe)) ∧ st ≠ .busy ∧
      (match pe with
       | none => Cl N Q .normal (Env.ofL l) (H'.set H.length .dead) ds
       | some c' => AWP P (some b0) N c' (Env.ofL l) (H'.set H.length .dead) ds Q))) : AWP P (some b0) N c (Env.ofL l) H ds Q := by
  cases c with
  | rangeFunc fo ps' asg body =>
    simp only [Code.rps] at hps
    subst hps
    simp only [Code.cnd] at hf
    simp only [Code.asg, Code.b] at h
    intro g w a R hg hr
    refine wpIn_rangeFunc ?_
    intro fn _
    obtain ⟨o0, p1, p2, pb, r0, rfl, _⟩ := hg.sr.raw l0 _ h0
    rw [pb] at p1
    obtain ⟨rec, hrec⟩ : ∃ rec : Loop, rec = { state := .ready, pending := none, fn, tmps := a.tmps, params := ps', assign := asg, body, defers := r0.defers } := ⟨_, rfl⟩
    have n2 := hg.sr.CV (.loop rec) rfl (gL w.heap.size ⟨N, l, ps', asg, body⟩ .ready none) ⟨rfl, rec, rfl, by rw [hrec], by rw [hrec], by rw [hrec], by rw [hrec], by rw [hrec], by rw [hrec]; exact hg.sz, by
      have ht : rec.tmps = a.tmps := by rw [hrec]
      rw [ht]
      exact hg.tr.BB ((hg.sr.CV (.loop rec) rfl ⟨fun _ _ _ _ => True, fun _ _ => trivial⟩ trivial).2.toExt0)⟩
    obtain ⟨s2, e2⟩ := n2
    have henter : (Instr.enterLoop fn a.tmps ps' asg body (FR (some b0)).round).run P w = .ok (w.heap.size, []) (w.alloc (.loop rec)) := by
      rw [hrec]; exact run_enterLoop_inner p1 fn a.tmps ps' asg body
    obtain ⟨fs, cap, hfv, l1, l2, g1', g2'⟩ := (cF (hg.tr.BB e2.toExt0) (a := a) (by intro p hp; simp at hp) hf).fnE
    obtain ⟨hent, hcalls⟩ := h w.heap.size
    have hargs : (ys ++ [yv w.heap.size] ++ cs).length = (fs ++ #[Value.func (.yield w.heap.size) #[] #[]] ++ cap).size := by simp [l1, l2]; omega
    refine ⟨w.heap.size, [], w.alloc (.loop rec), ⟨.fn (.func fid) cap, fs ++ #[Value.func (.yield w.heap.size) #[] #[]]⟩, w.alloc (.loop rec), fid, fs ++ #[Value.func (.yield w.heap.size) #[] #[]] ++ cap, w.alloc (.loop rec), henter, ?_, fun _ _ => trivial, ?_, fun h => by simp [FR, Fence.wide] at h, ?_⟩
    · have hm : Array.map a.eval #[Operand.const (Value.func (.yield w.heap.size) #[] #[])] = #[Value.func (.yield w.heap.size) #[] #[]] := by
        simp [Act.eval]
      simp only [rangeCall, resolve, hfv, Deferred.ofValue, Sem.run_bind, Sem.run_pure, Result.andThen, hm]
    · simp only [invoke, hent]
    · refine GM ?_
      obtain ⟨l4, g4⟩ := wQ (xs := ys) (ys := [yv w.heap.size]) (as0 := fs) (bs := #[Value.func (.yield w.heap.size) #[] #[]]) l1 rfl g1' (fun i x y hx hy => by
        cases i with
        | zero => simp at hx hy; subst hx; subst hy; exact .lit _ rfl
        | succ i => simp at hx)
      obtain ⟨l5, g5⟩ := wQ l4 l2 g4 g2'
      refine (hcalls _ _ _ s2 l5 g5).mono ?_
      rintro e w3 ⟨v, r, g3, H3, rfl, _, s3, x3, st, pe, hL, hb, hq⟩
      obtain ⟨o3, q1, q2, qb, r3, rfl, z1, z2, z3, z4, z5, z6, z7⟩ := s3.raw _ _ hL
      rw [qb] at q1
      have s4 := s3.wC hL (.loop { r3 with state := .exhausted }) rfl ⟨fun _ _ _ _ => True, fun _ _ => trivial⟩ trivial
      rw [qb] at s4
      obtain ⟨s4, x4⟩ := s4
      have s5 := s4.kill H.length
      rw [List.set_set] at s5
      have hxx : Ext g w g3 (w3.putObj w.heap.size (.loop { r3 with state := .exhausted })) := (e2.trans x3).trans x4
      have hgood : Good N g3 (w3.putObj w.heap.size (.loop { r3 with state := .exhausted })) (Env.ofL l) (H3.set H.length .dead) ds { a with defers := [] ++ a.defers } := by
        refine ⟨s5, hg.tr.BB hxx.toExt0, ?_, ?_, hg.sz⟩
        · rw [List.nil_append, hg.df]
          apply List.map_congr_left
          intro l' hl'
          simp only [mkD, hxx.blk l' (hg.dl l' hl')]
        · intro l' hl'
          exact Nat.lt_of_lt_of_le (hg.dl l' hl') hxx.n
      refine ⟨_, _, run_endLoop q1 (by rw [z1]; exact hb), ?_⟩
      split
      · rename_i hp
        have hpe : pe = none := z2.symm.trans hp
        subst hpe
        obtain ⟨g5, T5, H5, hg5, hx5, hq5⟩ := hq _ _ _ hgood
        exact hr _ _ _ _ _ _ _ hq5 hg5 (hxx.trans hx5)
      · rename_i c' hp
        have hpe : pe = some c' := z2.symm.trans hp
        subst hpe
        exact hq _ _ _ _ hgood fun e T' H' ds' g' w' a' hq' hg' hx' => hr e T' H' ds' g' w' a' hq' hg' (hxx.trans hx')
  | region i o d => cases d <;> simp [Code.kind] at hk
  | _ => simp [Code.kind] at hk

theorem aC5 {σ : Type} {N : Nat} {Q : Exit → Env → aT → List Nat → Prop} {ds : List Nat} {c : Code} {l : List (Nat × V)} {fid : Nat} {ys cs : List V} {H0 : aT} {E : List Nat} {G : Gs} {L : List (Nat × Nat × List V)} {b0 l0 : Nat} {A0 : rN} {st0 : LoopState} {pe0 : Option Code} (ps : Array Tmp) (I : rN → Nat → Nat → σ → Gs → Prop) (s0 s1 : σ) (v : V)
    (h0 : H[l0]? = some (.raw (gL b0 A0 st0 pe0)))
    (hk : c.kind = 9) (hf : cE (Env.ofL l) [] c.cnd = some (.fn (.func fid) ys cs)) (hps : c.rps = ps) (hO : aM ⟨H0, E, G⟩ H L)
    (hi : ∀ b lL, I ⟨N, l, ps, c.asg, c.b⟩ b lL s0 ((lL, .raw (gL b ⟨N, l, ps, c.asg, c.b⟩ .ready none)) :: (up L ++ G)))
    (hit : ∀ b lL, wS P fid (I ⟨N, l, ps, c.asg, c.b⟩ b lL) s0 (ys ++ [yv b] ++ cs) s1 v)
    (hend : ∀ b lL H' G', I ⟨N, l, ps, c.asg, c.b⟩ b lL s1 G' → aM ⟨H0, E, G'⟩ H' [] → ∃ st pe, H'[lL]? = some (.raw (gL b ⟨N, l, ps, c.asg, c.b⟩ st pe)) ∧ st ≠ .busy ∧
      (match pe with
       | none => Cl N Q .normal (Env.ofL l) (H'.set lL .dead) ds
       | some c' => AWP P (some b0) N c' (Env.ofL l) (H'.set lL .dead) ds Q)) : AWP P (some b0) N c (Env.ofL l) H ds Q := by
  refine aBu h0 hk hf hps fun b => ?_
  have o1 := hO.FG.NX (.raw (gL b ⟨N, l, ps, c.asg, c.b⟩ .ready none))
  refine (hit b H.length _ _ (hi b H.length) o1.gok).mono ?_
  rintro x H' ⟨_, G', hi', hst⟩
  exact hend b H.length H' G' hi' (o1.NA hst)

theorem KN {H0 : aT} {E : List Nat} {lL : Nat} {s : dK} {G : Gs} {L : List (Nat × Nat × List V)} (h : aM ⟨H0, E, (lL, s) :: (up L ++ G)⟩ H []) :
    H[lL]? = some s ∧ aM ⟨H0, E, G⟩ (H.set lL .dead) L := by
  refine ⟨(h.gm 0 _ rfl).2, ?_⟩
  exact (h.mZ .dead).nC.take

end Go.Abs
namespace Go.Abs
open Go Go.RowKit
theorem aFk {n : Nat} {el el' : Nat → V} (h : ∀ i, i < n → aQ (el i) (el' i)) (hn : ∀ i, i < n → fP (el' i) = true) : aQ (.sl false n el) (.sl false n el') := by
  intro g w v hv
  cases hv with
  | sl0 z el a cap hz => exact .sl0 _ _ _ _ (by simp)
  | sl n el b o k cap c h1 h2 h3 h4 h5 h6 => exact .sl n _ b o k cap c (fun i hi => h i hi g w _ (h1 i hi)) h2 h3 h4 h5 hn

theorem aD3 {α : Type} [Inhabited α] {e : α → V} {xs : List V} {l : List α} (h : oV xs (l.map e)) (hn : (l.map e).all fP = true) : aQ (eW xs) (eL e l) := by
  intro g w v hv
  refine VC g w v ?_
  have hlen := h.len
  cases xs with
  | nil =>
    cases l with
    | nil => exact hv
    | cons a s => simp at hlen
  | cons x r =>
    cases l with
    | nil => simp at hlen
    | cons a s =>
      have hl : r.length = (s.map e).length := by simpa using hlen
      show Rep g w (.sl false ((s.map e).length + 1) (fun i => (e a :: s.map e).getD i .bad)) v
      rw [← hl]
      refine aFk (fun i hi => ?_) (fun i hi => ?_) g w v hv
      · have h1 : i < (x :: r).length := by simpa using hi
        have h2 : i < (e a :: s.map e).length := by simp only [List.length_cons]; omega
        have h3 : (x :: r).getD i .bad = (x :: r)[i] := by simp only [List.getD_eq_getElem?_getD, List.getElem?_eq_getElem h1, Option.getD_some]
        have h4 : (e a :: s.map e).getD i .bad = (e a :: s.map e)[i] := by simp only [List.getD_eq_getElem?_getD, List.getElem?_eq_getElem h2, Option.getD_some]
        rw [h3, h4]
        exact h.get i _ _ (List.getElem?_eq_getElem h1) (List.getElem?_eq_getElem h2)
      · have h2 : i < (e a :: s.map e).length := by simp only [List.length_cons]; omega
        have h4 : (e a :: s.map e).getD i .bad = (e a :: s.map e)[i] := by simp only [List.getD_eq_getElem?_getD, List.getElem?_eq_getElem h2, Option.getD_some]
        rw [h4]
        exact List.all_eq_true.1 hn (e a :: s.map e)[i] (List.getElem_mem h2)

def sU : Option Nat → V
  | none => .lit (.pointer none)
  | some a => .lp a 0 0

section bundles
variable {β : Type} (sh : Nat → Nat → β → OL)
def pmM : List (Nat × Nat) → List (Int × β) → List (Int × Option Nat)
  | q :: los, p :: m => (p.1, some q.1) :: pmM los m
  | _, _ => []

def pmL : List (Nat × Nat) → List (Int × β) → OL
  | q :: los, p :: m => sh q.1 q.2 p.2 ++ pmL los m
  | _, _ => []

def pmG (lm : Nat) (los : List (Nat × Nat)) (m : List (Int × β)) : Gs := (lm, pF sU (pmM los m)) :: up (pmL sh los m)

variable {sh}
theorem PG : ∀ {los : List (Nat × Nat)} {m : List (Int × β)}, los.length = m.length → (pmM los m).length = m.length
  | [], [], _ => rfl
  | _ :: _, _ :: _, h => by simp only [pmM, List.length_cons]; rw [PG (by simpa using h)]
  | [], _ :: _, h => by simp at h
  | _ :: _, [], h => by simp at h

theorem aAh {k : Int} : ∀ {los : List (Nat × Nat)} {m : List (Int × β)}, gH m k = none → gH (pmM los m) k = none
  | [], [], _ => rfl
  | [], _ :: _, _ => rfl
  | _ :: _, [], _ => rfl
  | q :: los, p :: m, h => by
    rw [gH] at h
    split at h
    · cases h
    · rename_i hk
      rw [pmM, gH, if_neg hk, aAh h]

def Put (sh : Nat → Nat → β → OL) (m : List (Int × β)) (k : Int) (a : Nat) (MM : List (Int × Option Nat)) (R : OL) : Prop :=
  ∀ b' p', ∃ los', los'.length = (fB m k p').length ∧ MM = pmM los' (fB m k p') ∧ (sh a b' p' ++ R).Perm (pmL sh los' (fB m k p'))

theorem UR {k : Int} {x : β} : ∀ {los : List (Nat × Nat)} {m : List (Int × β)}, los.length = m.length → gH m k = some x →
    ∃ a b R, gH (pmM los m) k = some (some a) ∧ (pmL sh los m).Perm (sh a b x ++ R) ∧ Put sh m k a (pmM los m) R
  | [], [], _, h => by cases h
  | [], _ :: _, h, _ => by simp at h
  | _ :: _, [], h, _ => by simp at h
  | q :: los, p :: m, hl, h => by
    rw [gH] at h
    by_cases hk : p.1 = k
    · rw [if_pos hk] at h
      cases h
      refine ⟨q.1, q.2, pmL sh los m, by rw [pmM, gH, if_pos hk], List.Perm.refl _, fun b' p' => ⟨(q.1, b') :: los, ?_, ?_, ?_⟩⟩
      · simp only [fB, if_pos hk]; simpa using hl
      · simp only [fB, if_pos hk]; simp only [pmM, hk]
      · simp only [fB, if_pos hk, pmL]; exact List.Perm.refl _
    · rw [if_neg hk] at h
      obtain ⟨a, b, R, h1, h2, h3⟩ := UR (los := los) (m := m) (by simpa using hl) h
      refine ⟨a, b, sh q.1 q.2 p.2 ++ R, by rw [pmM, gH, if_neg hk, h1], ?_, fun b' p' => ?_⟩
      · rw [pmL]
        refine (List.Perm.append_left _ h2).trans ?_
        rw [← List.append_assoc, ← List.append_assoc]
        exact List.Perm.append_right _ List.perm_append_comm
      · obtain ⟨los', e1, e2, e3⟩ := h3 b' p'
        refine ⟨q :: los', ?_, ?_, ?_⟩
        · simp only [fB, if_neg hk, List.length_cons, e1]
        · simp only [fB, if_neg hk, pmM, e2]
        · simp only [fB, if_neg hk, pmL]
          refine List.Perm.trans ?_ (List.Perm.append_left _ e3)
          rw [← List.append_assoc, ← List.append_assoc]
          exact List.Perm.append_right _ List.perm_append_comm

theorem aBG {k : Int} {a : Nat} : ∀ {los : List (Nat × Nat)} {m : List (Int × β)}, los.length = m.length → gH m k = none → Put sh m k a (fB (pmM los m) k (some a)) (pmL sh los m)
  | [], [], _, _ => fun b' p' => ⟨[(a, b')], rfl, rfl, by simp [fB, pmL]⟩
  | [], _ :: _, h, _ => by simp at h
  | _ :: _, [], h, _ => by simp at h
  | q :: los, p :: m, hl, h => by
    rw [gH] at h
    split at h
    · cases h
    · rename_i hk
      intro b' p'
      obtain ⟨los', e1, e2, e3⟩ := aBG (a := a) (los := los) (m := m) (by simpa using hl) h b' p'
      refine ⟨q :: los', ?_, ?_, ?_⟩
      · simp only [fB, if_neg hk, List.length_cons, e1]
      · simp only [pmM, fB, if_neg hk, e2]
      · simp only [fB, if_neg hk, pmL]
        refine List.Perm.trans ?_ (List.Perm.append_left _ e3)
        rw [← List.append_assoc, ← List.append_assoc]
        exact List.Perm.append_right _ List.perm_append_comm

theorem AV (A B : OL) : up (A ++ B) = up A ++ up B := by simp [up]

theorem aM.aDP {H0 : aT} {E : List Nat} {G : Gs} {H : aT} {L R : OL} (h : aM ⟨H0, E, up R ++ G⟩ H L) : aM ⟨H0, E, G⟩ H (R ++ L) := by
  have h1 : aM ⟨H0, E, G⟩ H (L ++ R) := aM.glue (F := ⟨H0, E, G⟩) h
  have h2 := h1.FG
  exact (h2.pP (G' := up (R ++ L) ++ G) (List.Perm.append_right _ (by rw [AV, AV]; exact List.perm_append_comm))).take

theorem aM.aDZ {H0 : aT} {E : List Nat} {G : Gs} {H : aT} {L R : OL} (h : aM ⟨H0, E, G⟩ H (R ++ L)) : aM ⟨H0, E, up R ++ G⟩ H L := by
  have h2 := h.FG
  have h3 : aM ⟨H0, E, G⟩ H (L ++ R) := (h2.pP (G' := up (L ++ R) ++ G) (List.Perm.append_right _ (by rw [AV, AV]; exact List.perm_append_comm))).take
  exact aM.part (F := ⟨H0, E, G⟩) h3

theorem aM.aAI {H0 : aT} {E : List Nat} {H : aT} {L : OL} : ∀ {G : Gs}, aM ⟨H0, E, G⟩ H L → aM ⟨H0, E, []⟩ H L
  | [], h => h
  | _ :: _, h => aM.aAI h.nC

theorem aM.focus {H0 : aT} {E : List Nat} {G : Gs} {H : aT} {L : OL} {lm : Nat} {los : List (Nat × Nat)} {m : List (Int × β)} {k : Int} {x : β} (h : aM ⟨H0, E, pmG sh lm los m ++ G⟩ H L) (hl : los.length = m.length) (hg : gH m k = some x) :
    ∃ a b R, gH (pmM los m) k = some (some a) ∧ Put sh m k a (pmM los m) R ∧ aM ⟨H0, E, (lm, pF sU (pmM los m)) :: (up R ++ G)⟩ H (sh a b x ++ L) := by
  obtain ⟨a, b, R, h1, h2, h3⟩ := UR (sh := sh) hl hg
  refine ⟨a, b, R, h1, h3, ?_⟩
  have : (pmG sh lm los m ++ G).Perm (up (sh a b x) ++ ((lm, pF sU (pmM los m)) :: (up R ++ G))) := by
    unfold pmG
    refine List.Perm.trans ?_ List.perm_middle.symm
    refine List.Perm.cons _ ?_
    rw [← List.append_assoc, ← AV]
    exact List.Perm.append_right _ (h2.map _)
  exact (h.pP this).aDP

theorem aM.ZG {H0 : aT} {E : List Nat} {G : Gs} {H : aT} {L R : OL} {lm a b : Nat} {MM : List (Int × Option Nat)} {m : List (Int × β)} {k : Int} {x : β} (h : aM ⟨H0, E, (lm, pF sU MM) :: (up R ++ G)⟩ H (sh a b x ++ L)) (hp : Put sh m k a MM R) :
    ∃ los', los'.length = (fB m k x).length ∧ aM ⟨H0, E, pmG sh lm los' (fB m k x) ++ G⟩ H L := by
  obtain ⟨los', e1, e2, e3⟩ := hp b x
  refine ⟨los', e1, ?_⟩
  have h1 := h.aDZ
  refine h1.pP ?_
  unfold pmG
  refine List.perm_middle.trans ?_
  rw [e2]
  refine List.Perm.cons _ ?_
  rw [← List.append_assoc, ← AV]
  exact List.Perm.append_right _ (e3.map _)

theorem KX {P : Program} {ro : Option Nat} {N : Nat} {c : Code} {T : Env} {ds : List Nat} {Q : Exit → Env → aT → List Nat → Prop} {α : Type} [Inhabited α] {H0 : aT} {E : List Nat} (k k2 j : Nat) (cs : Nat → β → List V) (rows : β → List α) (e : α → V) (sf : β → V)
    (hsh : ∀ a b p, sh a b p = [(a, k, [.agg (cs b p)]), (b, k2, (rows p).map e)]) (hj : ∀ b p, (cs b p)[j]? = some (.msl k2 b 0 (rows p).length)) (hsf : ∀ b p, V.agg ((cs b p).set j (eL e (rows p))) = sf p) :
    ∀ (m : List (Int × β)) (los : List (Nat × Nat)) {G : Gs} {H : aT} {L : OL}, los.length = m.length → aM ⟨H0, E, up (pmL sh los m) ++ G⟩ H L →
      (∀ H', aM ⟨H0, E, up (pmL (fun a _ p => [(a, k, [sf p])]) los m) ++ G⟩ H' L → AWP P ro N c T H' ds Q) → AWP P ro N c T H ds Q
  | [], [], G, H, L, _, hO, h => h H hO
  | [], _ :: _, _, _, _, hl, _, _ => by simp at hl
  | _ :: _, [], _, _, _, hl, _, _ => by simp at hl
  | p :: m, q :: los, G, H, L, hl, hO, h => by
    rw [pmL, AV, List.append_assoc] at hO
    have h1 := hO.aDP
    rw [hsh] at h1
    refine KJ (e := e) (rows p.2) 0 1 k k2 q.1 q.2 (rows p.2).length j (cs q.2 p.2) ((q.1, k, [sf p.2]) :: L) h1 rfl (hj _ _) rfl rfl rfl (by rw [← hsf q.2 p.2]; rfl) fun H' hO' => ?_
    have h2 := aM.aDZ (R := [(q.1, k, [sf p.2])]) (L := L) hO'
    have h3 : aM ⟨H0, E, up (pmL sh los m) ++ (up [(q.1, k, [sf p.2])] ++ G)⟩ H' L := h2.pP (by
      rw [← List.append_assoc, ← List.append_assoc]; exact List.Perm.append_right _ List.perm_append_comm)
    refine KX k k2 j cs rows e sf hsh hj hsf m los (by simpa using hl) h3 fun H'' hO'' => h H'' ?_
    refine hO''.pP ?_
    rw [pmL, AV, ← List.append_assoc]
    exact List.Perm.append_right _ List.perm_append_comm

end bundles
def aCN : V → Option Bool
  | .lit (.pointer none) => some true
  | .lp _ _ _ => some false
  | _ => none

section nils
variable {P : Program} {tt : TT} {N : Nat} {T : Env} {H : aT} {ops : Array Oper} {K : Env → aT → Prop} {i n : Nat}
theorem VA {K : V → aT → Prop} {op : BinOp} {t e u : TypeId} {x y : Operand} {z : V} {b : Bool} (hop : op = .eql ∨ op = .neq) (hu : P.underlying t = some (.pointer e)) (hz : aCN z = some b) (h : K (.lit (.bool (if op = .eql then b else !b))) H) : CG P (.binOp op t x y u) [z, .lit (.pointer none)] H K := by
  intro ro o a g w next R ho hs hx hn
  have r1 := hx.2 0 z (a.eval x) rfl (by simp [Op.operands])
  have r2 := hx.2 1 (.lit (.pointer none)) (a.eval y) rfl (by simp [Op.operands])
  have e2 : a.eval y = .pointer none := r2.lW
  have e1 : ∃ ad, a.eval x = .pointer ad ∧ ad.isNone = b := by
    unfold aCN at hz
    split at hz
    · simp at hz; subst hz; exact ⟨none, r1.lW, rfl⟩
    · simp at hz; subst hz; obtain ⟨_, h2⟩ := r1.lpE; exact ⟨_, h2, rfl⟩
    · cases hz
  obtain ⟨ad, e1, e3⟩ := e1
  have hq : (Op.equal t (.pointer ad) (.pointer none)).run P w = .ok b w := by
    unfold Op.equal Op.maxDepth
    unfold Op.equalIn
    simp only [Sem.run_bind, run_underlying hu, Result.andThen]
    cases ad with
    | none => subst e3; rfl
    | some ad => subst e3; rfl
  have hr : (execOp a.eval o).run P w = .ok (.value (.bool (if op = .eql then b else !b))) w := by
    cases o
    simp only at ho
    subst ho
    rcases hop with rfl | rfl
    · have h1 : (eqGuard .eql t x y (.pointer ad) (.pointer none)).run P w = .ok () w := rfl
      have h2 : (binOp .eql t (.pointer ad) (.pointer none)).run P w = .ok (.bool b) w := by
        simp only [binOp, Sem.run_bind, hq, Result.andThen]; rfl
      simp [execOp, e1, e2, h1, h2, Result.andThen]
    · have h1 : (eqGuard .neq t x y (.pointer ad) (.pointer none)).run P w = .ok () w := rfl
      have h2 : (binOp .neq t (.pointer ad) (.pointer none)).run P w = .ok (.bool (!b)) w := by
        simp only [binOp, Sem.run_bind, hq, Result.andThen]; rfl
      simp [execOp, e1, e2, h1, h2, Result.andThen]
  exact eC (fun c e => by rw [e] at ho; cases ho) hr (hn _ _ _ _ _ h hs (.lit _ rfl) (Ext.refl g w))

def aDL (P : Program) (t : TypeId) : Bool := match P.underlying t with
  | some (.pointer _) => true
  | _ => false

def aBN (P : Program) (N : Nat) (ops : Array Oper) (T : Env) (i : Nat) : Option Bool := match fN N ops i with
  | some (.binOp op t x y _) => match aDL P t, cE T [] x, cE T [] y with
    | true, some z, some (.lit (.pointer none)) => match aCN z, op with
      | some b, .eql => some b
      | some b, .neq => some (!b)
      | _, _ => none
    | _, _, _ => none
  | _ => none

theorem XH (b : Bool) (h : RWs P tt N ops (aL (i + 1) n) (T.bQ (cN ops i) ([], .lit (.bool b))) H K)
    (hs : aL i n = i :: aL (i + 1) n := by kernel_rfl) (hd : aBN P N ops T i = some b := by kernel_rfl) : RWs P tt N ops (aL i n) T H K := by
  unfold aBN at hd
  split at hd
  · rename_i op t x y u hp
    split at hd
    · rename_i z hi hx hy
      unfold aDL at hi
      split at hi
      · rename_i e hu
        split at hd
        · rename_i b' hz
          simp at hd; subst hd
          exact vJ hs hp (xs := [z, .lit (.pointer none)]) (by simp [Op.operands, iC, hx, hy]) (VA (.inl rfl) hu hz (by simpa using h))
        · rename_i b' hz
          simp at hd; subst hd
          exact vJ hs hp (xs := [z, .lit (.pointer none)]) (by simp [Op.operands, iC, hx, hy]) (VA (.inr rfl) hu hz (by simpa using h))
        · cases hd
      · cases hi
    · cases hd
  · cases hd

end nils
theorem SR.aEq {g : Gh} {w : World} {H : aT} (h : SR g w H) {l : Nat} {s s' : Sp} (hl : H[l]? = some (.raw s)) (hs : ∀ g w b o, s.p g w b o → s'.p g w b o) : SR g w (H.set l (.raw s')) := by
  have hlt : l < H.length := (List.getElem?_eq_some_iff.1 hl).1
  have hat : ∀ l' ob, (H.set l (.raw s'))[l']? = some ob → (l' = l ∧ ob = .raw s') ∨ (l' ≠ l ∧ H[l']? = some ob) := by
    intro l' ob hl'
    rw [List.getElem?_set] at hl'
    split at hl'
    · rename_i heq
      simp [heq ▸ hlt] at hl'
      exact .inl ⟨heq.symm, hl'.symm⟩
    · rename_i hne; exact .inr ⟨fun e => hne e.symm, hl'⟩
  refine { len := by simp [h.len], fxc := h.fxc, nt := ?_, kk := ?_, vec := ?_, raw := ?_, disj := ?_, rawd := ?_ }
  · intro l' k1 es1 hl1
    rcases hat _ _ hl1 with ⟨_, he⟩ | ⟨_, hl2⟩
    · cases he
    · exact h.nt l' k1 es1 hl2
  · intro l' k1 es1 hl1
    rcases hat _ _ hl1 with ⟨_, he⟩ | ⟨_, hl2⟩
    · cases he
    · exact h.kk l' k1 es1 hl2
  · intro l' k1 es1 hl1
    rcases hat _ _ hl1 with ⟨_, he⟩ | ⟨_, hl2⟩
    · cases he
    · exact h.vec l' k1 es1 hl2
  · intro l' s1 hl1
    rcases hat _ _ hl1 with ⟨rfl, he⟩ | ⟨_, hl2⟩
    · cases he
      obtain ⟨o, q1, q2, q3⟩ := h.raw l' _ hl
      exact ⟨o, q1, q2, hs _ _ _ _ q3⟩
    · exact h.raw l' s1 hl2
  · intro a b k1 k2 es1 es2 ha hb2 hne
    rcases hat _ _ ha with ⟨_, he⟩ | ⟨_, ha2⟩
    · cases he
    · rcases hat _ _ hb2 with ⟨_, he⟩ | ⟨_, hb3⟩
      · cases he
      · exact h.disj _ _ _ _ _ _ ha2 hb3 hne
  · intro a b s1 s2 ha hb2 hne
    rcases hat _ _ ha with ⟨rfl, _⟩ | ⟨_, ha2⟩ <;> rcases hat _ _ hb2 with ⟨rfl, _⟩ | ⟨_, hb3⟩
    · exact absurd rfl hne
    · exact h.rawd _ _ _ _ hl hb3 hne
    · exact h.rawd _ _ _ _ ha2 hl hne
    · exact h.rawd _ _ _ _ ha2 hb3 hne

theorem aCB {N : Nat} {Q : Exit → Env → aT → List Nat → Prop} {ds : List Nat} {e : Exit} {T : Env} {H H0 : aT} {E : List Nat} {G : Gs} {L : OL} {β : Type} {f : β → V} {m : List (Int × β)} {bs : List Nat} {l clock : Nat} (hO : aM ⟨H0, E, (l, EC f m bs clock) :: G⟩ H L)
    (h : ∀ H', aM ⟨H0, E, (l, pF f m) :: G⟩ H' L → Cl N Q e T H' ds) : Cl N Q e T H ds :=
  AB (fun g w _ _ hg => ⟨g, ⟨hg.sr.aEq (hO.gm 0 _ rfl).2 (s' := CO dI (tD f m)) fun _ _ _ _ ⟨es, h1, _, h3, h4, h5⟩ => ⟨es, clock, h1, h3, h4, h5⟩, hg.tr, hg.df, hg.dl, hg.sz⟩, Ext.refl g w⟩) (h _ (hO.mZ _))

theorem NF {S β : Type} (g : S → Int → Option S) : ∀ (q : List (Int × β)) (s : S), dO (fun s (x : Int × β) => g s x.1) s q = dO g s (q.map (·.1))
  | [], _ => rfl
  | x :: q, s => by
    simp only [dO, List.map_cons]
    cases g s x.1 with
    | none => rfl
    | some s' => exact NF g q s'

theorem WO {β : Type} : ∀ {los : List (Nat × Nat)} {m : List (Int × β)}, los.length = m.length → (pmM los m).map (·.1) = m.map (·.1)
  | [], [], _ => rfl
  | _ :: _, _ :: _, h => by simp only [pmM, List.map_cons]; rw [WO (by simpa using h)]
  | [], _ :: _, h => by simp at h
  | _ :: _, [], h => by simp at h

theorem aEH {S R β : Type} {g : S → Int → Option S} {after : S → Option R} {s : S} {r : R} {los : List (Nat × Nat)} {m : List (Int × β)} (hl : los.length = m.length) (h : tG (m.map (·.1)) (fun q => (dO g s q).bind after) = some r) :
    tG (pmM los m) (fun q => (dO (fun s (x : Int × Option Nat) => g s x.1) s q).bind after) = some r :=
  HZ fun q hq => by
    rw [NF]
    exact RI h _ (by rw [← WO hl]; exact hq.map _)

theorem RS {β : Type} {k : Int} {x : β} : ∀ {m : List (Int × β)}, gH m k = some x → fB m k x = m
  | [], h => by cases h
  | p :: m, h => by
    rw [gH] at h
    by_cases hk : p.1 = k
    · rw [if_pos hk] at h; cases h
      rw [fB, if_pos hk, ← hk]
    · rw [if_neg hk] at h
      simp only [fB, if_neg hk, RS h]

end Go.Abs
namespace Go.Abs
open Go
structure bY where
  Kind : Int
  Size : Int
  Hop : Int
  deriving Inhabited, DecidableEq

def CW (x : bY) : List V := [(cQ .i64 x.Kind)] ++ [(cQ .i64 x.Size)] ++ [(cQ .i64 x.Hop)]

def cO (x : bY) : V := .agg (CW x)

structure aI where
  Kind : Int
  Num : Int
  Text : ByteArray
  deriving Inhabited, DecidableEq

def KP (x : aI) : List V := [(cQ .i64 x.Kind)] ++ [(cQ .i64 x.Num)] ++ [(zS x.Text)]

def aJ (x : aI) : V := .agg (KP x)

structure aG where
  Row : (List aI)
  At : Int
  Net : Int
  deriving Inhabited, DecidableEq

def MQ (x : aG) : List V := [(eL aJ x.Row)] ++ [(cQ .i64 x.At)] ++ [(cQ .i64 x.Net)]

def aD (x : aG) : V := .agg (MQ x)

structure aC where
  At : Int
  Net : Int
  deriving Inhabited, DecidableEq

def aAS (x : aC) : List V := [(cQ .i64 x.At)] ++ [(cQ .i64 x.Net)]

def aK (x : aC) : V := .agg (aAS x)

inductive bN where
  | none_
  | k_number (x : Int)
  | k_words (x : ByteArray)
  deriving DecidableEq

instance : Inhabited bN := ⟨.none_⟩

def bK : bN → V
  | .none_ => .lit .nilIface
  | .k_number x => .ifc 148 (cQ .i64 x)
  | .k_words x => .ifc 152 (zS x)

structure bI where
  From : Int
  To : Int
  deriving Inhabited, DecidableEq

def ND (x : bI) : List V := [(cQ .i64 x.From)] ++ [(cQ .i64 x.To)]

def cU (x : bI) : V := .agg (ND x)

structure bG where
  Row : (List aI)
  N : Int
  deriving Inhabited, DecidableEq

def aAz (x : bG) : List V := [(eL aJ x.Row)] ++ [(cQ .i64 x.N)]

def bT (x : bG) : V := .agg (aAz x)

structure aN where
  Span : bI
  Rows : (List bG)
  deriving Inhabited, DecidableEq

def aAX (x : aN) : List V := ND x.Span ++ [(eL bT x.Rows)]

def aR (x : aN) : V := .agg (aAX x)

structure cB where
  row : (List aI)
  jumps : (List aC)
  deriving Inhabited, DecidableEq

def YS (x : cB) : List V := [(eL aJ x.row)] ++ [(eL aK x.jumps)]

def cC (x : cB) : V := .agg (YS x)

noncomputable def qF (n0 : Int) : Option Bool :=
  some ((decide ((1 : Int) ≤ n0)) && (decide (n0 ≤ (1099511627776 : Int))))

noncomputable def lB (ok4 : Bool) : Option Int :=
  cond (!ok4)
  (some (2 : Int))
  (some (0 : Int))

noncomputable def pS (w0 : bY) : Option Int :=
  cond (decide (w0.Kind = (1 : Int)))
  (lB ((decide (w0.Size = (0 : Int))) && (decide (w0.Hop = (0 : Int)))))
  (cond (decide (w0.Kind = (2 : Int)))
  ((qF w0.Size).bind fun x4 =>
  (dL x4 (qF w0.Hop)).bind fun x7 =>
  lB (x4 && x7))
  (cond (decide (w0.Kind = (3 : Int)))
  (lB (((decide ((1 : Int) ≤ w0.Size)) && (decide (w0.Size ≤ (64 : Int)))) && (decide (w0.Hop = (0 : Int)))))
  (lB false)))

noncomputable def pQ (l0 : (List aG)) : Option ((List aG)) :=
  some l0

noncomputable def iG  : Option Bool :=
  some true

noncomputable def fM (s10 : (List aI)) (s21 : (List aI)) (t12 : Int) (t13 : Int) : Option ((Int) ⊕ (Unit ⊕ Bool)) :=
  cond (decide (t13 < t12))
  (bC (0 ≤ t13 ∧ t13 < ((List.length s10 : Nat) : Int)) <|
  bC (0 ≤ t13 ∧ t13 < ((List.length s21 : Nat) : Int)) <|
  cond (!((decide (((List.getD s10 (Int.toNat t13) default).Kind) = ((List.getD s21 (Int.toNat t13) default).Kind))) && ((decide (((List.getD s10 (Int.toNat t13) default).Num) = ((List.getD s21 (Int.toNat t13) default).Num))) && ((pN ((List.getD s10 (Int.toNat t13) default).Text) ((List.getD s21 (Int.toNat t13) default).Text)) && true))))
  (some (.inr (.inr false)))
  (some (.inl (IntKind.i64.wrap (t13 + (1 : Int))))))
  (some (.inr (.inl ())))

noncomputable def kD (s10 : (List aI)) (s21 : (List aI)) (t12 : Int) (t13 : Int) : Option Bool :=
  (lp (fun s => fM s10 s21 t12 s) t13).bind (Sum.elim (fun rr => iG ) (fun rr => some rr))

noncomputable def fW (s10 : (List aI)) (s21 : (List aI)) : Option Bool :=
  cond (!decide (((List.length s10 : Nat) : Int) = ((List.length s21 : Nat) : Int)))
  (some false)
  (kD s10 s21 ((List.length s10 : Nat) : Int) (0 : Int))

noncomputable def rD (a0 : (List aI)) (b1 : (List aI)) : Option Bool :=
  (fW a0 b1).bind fun x1 =>
  some x1

noncomputable def tB (r0 : (List aI)) : Option (List aI) :=
  bC (0 ≤ ((List.length r0 : Nat) : Int) ∧ (32 : Int) * ((List.length r0 : Nat) : Int) ≤ 281474976710656 ∧ ((List.length r0 : Nat) : Int) ≤ 9223372036854775807) <|
  bC ((List.length ([] : List aI) + List.length r0) * 32 ≤ 140737488355328 ∧ List.length ([] : List aI) + List.length r0 ≤ 9223372036854775807) <|
  some (([] : List aI) ++ r0)

noncomputable def qI {σ : Type} (cG : σ → (List aI) → (List aC) → Option (σ × Bool)) (sg : σ) (t1 : (List aG)) (i3 : Int) (r4 : (List aI)) (f5 : List aC) : Option ((σ × Int) ⊕ (σ ⊕ σ)) :=
  (tB r4).bind fun x7 =>
  (cG sg x7 f5).bind fun x10 =>
  cond (!x10.2)
  (some (.inr (.inr x10.1)))
  (some (.inl (x10.1, i3)))

noncomputable def kI {σ : Type} (cG : σ → (List aI) → (List aC) → Option (σ × Bool)) (t1 : (List aG)) (r4 : (List aI)) (sg : σ) (i3 : Int) (f5 : List aC) : Option ((σ × Int × List aC) ⊕ ((σ × Int × List aC))) :=
  bC ((((decide (i3 < ((List.length t1 : Nat) : Int)))) = true → 0 ≤ i3 ∧ i3 < ((List.length t1 : Nat) : Int))) <|
  (dL (decide (i3 < ((List.length t1 : Nat) : Int))) (rD ((List.getD t1 (Int.toNat i3) default).Row) r4)).bind fun x16 =>
  cond ((decide (i3 < ((List.length t1 : Nat) : Int))) && x16)
  (bC (0 ≤ i3 ∧ i3 < ((List.length t1 : Nat) : Int)) <|
  bC (0 ≤ i3 ∧ i3 < ((List.length t1 : Nat) : Int)) <|
  bC ((List.length f5 + List.length ([aC.mk ((List.getD t1 (Int.toNat i3) default).At) ((List.getD t1 (Int.toNat i3) default).Net)])) * 16 ≤ 140737488355328 ∧ List.length f5 + List.length ([aC.mk ((List.getD t1 (Int.toNat i3) default).At) ((List.getD t1 (Int.toNat i3) default).Net)]) ≤ 9223372036854775807) <|
  some (.inl (sg, IntKind.i64.wrap (i3 + (1 : Int)), f5 ++ ([aC.mk ((List.getD t1 (Int.toNat i3) default).At) ((List.getD t1 (Int.toNat i3) default).Net)]))))
  (some (.inr (sg, i3, f5)))

noncomputable def tN {σ : Type} (cG : σ → (List aI) → (List aC) → Option (σ × Bool)) (sg : σ) (t1 : (List aG)) (i3 : Int) (r4 : (List aI)) (f5 : List aC) : Option ((σ × Int) ⊕ (σ ⊕ σ)) :=
  (lp (fun s => kI cG t1 r4 s.1 s.2.1 s.2.2) (sg, i3, f5)).bind (fun rr => qI cG rr.1 t1 rr.2.1 r4 rr.2.2)

noncomputable def jG {σ : Type} (cG : σ → (List aI) → (List aC) → Option (σ × Bool)) (t1 : (List aG)) (sg : σ) (i3 : Int) : Option ((σ × Int) ⊕ (σ ⊕ σ)) :=
  cond (decide (i3 < ((List.length t1 : Nat) : Int)))
  (bC (0 ≤ i3 ∧ i3 < ((List.length t1 : Nat) : Int)) <|
  tN cG sg t1 i3 ((List.getD t1 (Int.toNat i3) default).Row) ([] : List aC))
  (some (.inr (.inl sg)))

noncomputable def tO {σ : Type} (cG : σ → (List aI) → (List aC) → Option (σ × Bool)) (sg : σ) (t1 : (List aG)) (i3 : Int) : Option σ :=
  (lp (fun s => jG cG t1 s.1 s.2) (sg, i3)).bind (Sum.elim (fun rr => some rr) (fun rr => some rr))

noncomputable def nG {σ : Type} (cG : σ → (List aI) → (List aC) → Option (σ × Bool)) (t1 : (List aG)) (sg0 : σ) : Option σ :=
  tO cG sg0 t1 (0 : Int)

noncomputable def gF (f1 : aI → Option Bool)  : Option Int :=
  some (-1 : Int)

noncomputable def iW (f1 : aI → Option Bool) (s0 : (List aI)) (t7 : Int) (t8 : Int) : Option ((Int) ⊕ (Unit ⊕ Int)) :=
  cond (decide (t8 < t7))
  (bC (0 ≤ t8 ∧ t8 < ((List.length s0 : Nat) : Int)) <|
  (f1 (List.getD s0 (Int.toNat t8) default)).bind fun x3 =>
  cond x3
  (some (.inr (.inr t8)))
  (some (.inl (IntKind.i64.wrap (t8 + (1 : Int))))))
  (some (.inr (.inl ())))

noncomputable def iV (f1 : aI → Option Bool) (s0 : (List aI)) (t7 : Int) (t8 : Int) : Option Int :=
  (lp (fun s => iW f1 s0 t7 s) t8).bind (Sum.elim (fun rr => gF f1 ) (fun rr => some rr))

noncomputable def jD (s0 : (List aI)) (f1 : aI → Option Bool) : Option Int :=
  iV f1 s0 ((List.length s0 : Nat) : Int) (0 : Int)

noncomputable def fJ (s0 : (List aI)) (f1 : aI → Option Bool) : Option Bool :=
  (jD s0 f1).bind fun x1 =>
  some (decide ((0 : Int) ≤ x1))

noncomputable def mM (v0 : aI) : Option (bN × Bool) :=
  cond ((decide (v0.Kind = (1 : Int))) && (pN v0.Text (⟨#[]⟩ : ByteArray)))
  (some (bN.k_number v0.Num, true))
  (cond (((decide (v0.Kind = (2 : Int))) && (decide (v0.Num = (0 : Int)))) && (decide (((ByteArray.size v0.Text : Nat) : Int) ≤ (64 : Int))))
  (some (bN.k_words v0.Text, true))
  (some (bN.none_, false)))

noncomputable def xN (v0 : aI) : Option Bool :=
  (mM v0).bind fun (x1_0, x1_1) =>
  match x1_0 with
  | .none_ => (some x1_1)
  | .k_number y4 => (some x1_1)
  | .k_words y5 => (some x1_1)

noncomputable def xO (v0 : aI) : Option Bool :=
  (xN v0).bind fun x1 =>
  some (!x1)

noncomputable def wB (r0 : (List aI)) : Option Bool :=
  cond (decide ((8 : Int) < ((List.length r0 : Nat) : Int)))
  (some false)
  ((fJ r0 (fun y0 => xO y0)).bind fun x2 =>
  some (!x2))

noncomputable def vD (t0 : (List aI)) : Option ((Int × (List aI))) :=
  some ((-1 : Int), t0)

noncomputable def fK {σ : Type} (f1 : σ → aI → Option (σ × Bool)) (sg : σ) : Option (σ × Int) :=
  some (sg, (-1 : Int))

noncomputable def cI {σ : Type} (f1 : σ → aI → Option (σ × Bool)) (s0 : (List aI)) (t7 : Int) (sg : σ) (t8 : Int) : Option ((σ × Int) ⊕ (σ ⊕ (σ × Int))) :=
  cond (decide (t8 < t7))
  (bC (0 ≤ t8 ∧ t8 < ((List.length s0 : Nat) : Int)) <|
  (f1 sg (List.getD s0 (Int.toNat t8) default)).bind fun x3 =>
  cond x3.2
  (some (.inr (.inr (x3.1, t8))))
  (some (.inl (x3.1, IntKind.i64.wrap (t8 + (1 : Int))))))
  (some (.inr (.inl sg)))

noncomputable def iM {σ : Type} (f1 : σ → aI → Option (σ × Bool)) (sg : σ) (s0 : (List aI)) (t7 : Int) (t8 : Int) : Option (σ × Int) :=
  (lp (fun s => cI f1 s0 t7 s.1 s.2) (sg, t8)).bind (Sum.elim (fun rr => fK f1 rr) (fun rr => some (rr.1, rr.2)))

noncomputable def iR {σ : Type} (s0 : (List aI)) (f1 : σ → aI → Option (σ × Bool)) (sg0 : σ) : Option (σ × Int) :=
  iM f1 sg0 s0 ((List.length s0 : Nat) : Int) (0 : Int)

noncomputable def kR (v0 : aI) (t1 : Int) (t2 : (List aI)) : Option (Bool × Int) :=
  bC (0 ≤ (IntKind.i64.wrap (t1 + (1 : Int))) ∧ (IntKind.i64.wrap (t1 + (1 : Int))) < ((List.length t2 : Nat) : Int)) <|
  some ((!((decide (v0.Kind = ((List.getD t2 (Int.toNat (IntKind.i64.wrap (t1 + (1 : Int)))) default).Kind))) && ((decide (v0.Num = ((List.getD t2 (Int.toNat (IntKind.i64.wrap (t1 + (1 : Int)))) default).Num))) && ((pN v0.Text ((List.getD t2 (Int.toNat (IntKind.i64.wrap (t1 + (1 : Int)))) default).Text)) && true)))), (IntKind.i64.wrap (t1 + (1 : Int))))

noncomputable def kW (x0 : Int) : Option Bool :=
  some (!decide (x0 = x0))

noncomputable def pJ (x0 : Int) (y1 : Int) : Option Int :=
  (kW x0).bind fun x1 =>
  (kW y1).bind fun x4 =>
  cond x1
  (cond x4
  (some (0 : Int))
  (some (-1 : Int)))
  (cond x4
  (some (1 : Int))
  (cond (decide (x0 < y1))
  (some (-1 : Int))
  (cond (decide (y1 < x0))
  (some (1 : Int))
  (some (0 : Int)))))

noncomputable def lP (x0 : Int) : Option Bool :=
  some (!decide (x0 = x0))

noncomputable def gU (x0 : Int) (y1 : Int) : Option Int :=
  (lP x0).bind fun x1 =>
  (lP y1).bind fun x4 =>
  cond x1
  (cond x4
  (some (0 : Int))
  (some (-1 : Int)))
  (cond x4
  (some (1 : Int))
  (cond (decide (x0 < y1))
  (some (-1 : Int))
  (cond (decide (y1 < x0))
  (some (1 : Int))
  (some (0 : Int)))))

noncomputable def kG (a0 : ByteArray) (b1 : ByteArray) : Option Int :=
  some (QE a0 b1)

noncomputable def nM (a0 : ByteArray) (b1 : ByteArray) : Option Int :=
  (kG a0 b1).bind fun x1 =>
  some x1

noncomputable def rI (a0 : aI) (b1 : aI) : Option Int :=
  (mM a0).bind fun (x1_0, x1_1) =>
  match x1_0 with
  | .none_ => ((mM b1).bind fun (x6_0, x6_1) =>
  match x6_0 with
  | .none_ => (cond ((!x1_1) || (!x6_1))
  (some (0 : Int))
  (none))
  | .k_number y9 => (cond ((!x1_1) || (!x6_1))
  (some (0 : Int))
  (some (1 : Int)))
  | .k_words y10 => (cond ((!x1_1) || (!x6_1))
  (some (0 : Int))
  (none)))
  | .k_number y4 => ((mM b1).bind fun (x23_0, x23_1) =>
  match x23_0 with
  | .none_ => (cond ((!x1_1) || (!x23_1))
  (some (0 : Int))
  (some (-1 : Int)))
  | .k_number y26 => (cond ((!x1_1) || (!x23_1))
  (some (0 : Int))
  ((gU y4 y26).bind fun x33 =>
  some x33))
  | .k_words y27 => (cond ((!x1_1) || (!x23_1))
  (some (0 : Int))
  (some (-1 : Int))))
  | .k_words y5 => ((mM b1).bind fun (x39_0, x39_1) =>
  match x39_0 with
  | .none_ => (cond ((!x1_1) || (!x39_1))
  (some (0 : Int))
  (none))
  | .k_number y42 => (cond ((!x1_1) || (!x39_1))
  (some (0 : Int))
  (some (1 : Int)))
  | .k_words y43 => (cond ((!x1_1) || (!x39_1))
  (some (0 : Int))
  ((nM y5 y43).bind fun x56 =>
  some x56)))

noncomputable def tT (a0 : (List aI)) (b1 : (List aI)) : Option Int :=
  (wB a0).bind fun x1 =>
  (dL (!(!x1)) (wB b1)).bind fun x4 =>
  cond ((!x1) || (!x4))
  (some (0 : Int))
  (bC (0 ≤ (if ((List.length b1 : Nat) : Int) < ((List.length a0 : Nat) : Int) then ((List.length b1 : Nat) : Int) else ((List.length a0 : Nat) : Int)) ∧ (if ((List.length b1 : Nat) : Int) < ((List.length a0 : Nat) : Int) then ((List.length b1 : Nat) : Int) else ((List.length a0 : Nat) : Int)) ≤ ((List.length a0 : Nat) : Int)) <|
  (vD b1).bind fun x9 =>
  (iR (List.take (Int.toNat (if ((List.length b1 : Nat) : Int) < ((List.length a0 : Nat) : Int) then ((List.length b1 : Nat) : Int) else ((List.length a0 : Nat) : Int))) a0) (fun st y0 => (kR y0 st x9.2).bind fun o => some (o.2, o.1)) x9.1).bind fun x12 =>
  cond (decide (x12.2 < (0 : Int)))
  ((pJ ((List.length a0 : Nat) : Int) ((List.length b1 : Nat) : Int)).bind fun x15 =>
  some x15)
  (bC (0 ≤ x12.2 ∧ x12.2 < ((List.length a0 : Nat) : Int)) <|
  bC (0 ≤ x12.2 ∧ x12.2 < ((List.length b1 : Nat) : Int)) <|
  (rI (List.getD a0 (Int.toNat x12.2) default) (List.getD b1 (Int.toNat x12.2) default)).bind fun x20 =>
  some x20))

noncomputable def qH (vZ : (List aC) → Option Bool) (lV : (List aG)) (t4 : Bool) (pO : (List aI)) (lF : Bool) (t14 : (List aI)) (t15 : (List aC)) : Option ((Bool × (List aI) × Bool) ⊕ (Bool × (List aI) × Bool)) :=
  (wB t14).bind fun x7 =>
  (dL (lF && (!(!x7))) (tT pO t14)).bind fun x12 =>
  (dL (!((!x7) || (lF && (decide ((0 : Int) ≤ x12))))) (vZ t15)).bind fun x15 =>
  cond (((!x7) || (lF && (decide ((0 : Int) ≤ x12)))) || (!x15))
  (some (.inr (false, pO, lF)))
  (some (.inl (t4, t14, true)))

noncomputable def yT (vZ : (List aC) → Option Bool) (t4 : Bool) (pO : (List aI)) (lF : Bool) (lV : (List aG)) : Option Bool :=
  (nG (fun st t14 t15 => rnd (fun (s : Bool × (List aI) × Bool) => qH vZ lV s.1 s.2.1 s.2.2 t14 t15) st) lV (.inl (t4, pO, lF))).bind (Sum.elim (fun (s : Bool × (List aI) × Bool) =>
  (some true))
  (fun (s : Bool × (List aI) × Bool) =>
  (some s.1)))

noncomputable def uM (l0 : (List aG)) (vZ : (List aC) → Option Bool) : Option Bool :=
  cond (decide ((4096 : Int) < ((List.length l0 : Nat) : Int)))
  (some false)
  ((pQ l0).bind fun x5 =>
  yT vZ false ([]) false x5)

noncomputable def AH (n0 : Int) : Option Bool :=
  some ((decide (n0 ≤ (1048576 : Int))) && (decide ((-1048576 : Int) ≤ n0)))

noncomputable def xJ  : Option Bool :=
  some true

noncomputable def nA (t9 : (List aC)) (t10 : Int) (rX : Int) (t11 : Int) : Option ((Int × Int) ⊕ (Unit ⊕ Bool)) :=
  cond (decide (t11 < t10))
  (bC (0 ≤ t11 ∧ t11 < ((List.length t9 : Nat) : Int)) <|
  (dL (!(((decide (((List.getD t9 (Int.toNat t11) default).At) ≤ rX)) || (decide ((1125899906842624 : Int) ≤ ((List.getD t9 (Int.toNat t11) default).At)))) || (decide (((List.getD t9 (Int.toNat t11) default).Net) = (0 : Int))))) (AH ((List.getD t9 (Int.toNat t11) default).Net))).bind fun x8 =>
  cond ((((decide (((List.getD t9 (Int.toNat t11) default).At) ≤ rX)) || (decide ((1125899906842624 : Int) ≤ ((List.getD t9 (Int.toNat t11) default).At)))) || (decide (((List.getD t9 (Int.toNat t11) default).Net) = (0 : Int)))) || (!x8))
  (some (.inr (.inr false)))
  (some (.inl ((List.getD t9 (Int.toNat t11) default).At, IntKind.i64.wrap (t11 + (1 : Int))))))
  (some (.inr (.inl ())))

noncomputable def AN (rX : Int) (t9 : (List aC)) (t10 : Int) (t11 : Int) : Option Bool :=
  (lp (fun s => nA t9 t10 s.1 s.2) (rX, t11)).bind (Sum.elim (fun rr => xJ ) (fun rr => some rr))

noncomputable def nJ (f0 : (List aC)) : Option Bool :=
  cond (decide ((1024 : Int) < ((List.length f0 : Nat) : Int)))
  (some false)
  (AN (-2 : Int) f0 ((List.length f0 : Nat) : Int) (0 : Int))

noncomputable def oK (l0 : (List aG)) : Option Bool :=
  (uM l0 (fun y0 => nJ y0)).bind fun x1 =>
  some x1

noncomputable def tS (iT : Int) : Option Int :=
  some iT

noncomputable def nS (t24 : (List aC)) (t25 : Int) (v3 : Int) (iT : Int) (t26 : Int) : Option ((Int × Int × Int) ⊕ (Int)) :=
  cond (decide (t26 < t25))
  (bC (0 ≤ t26 ∧ t26 < ((List.length t24 : Nat) : Int)) <|
  some (.inl (IntKind.i64.wrap (v3 + ((List.getD t24 (Int.toNat t26) default).Net)), if (IntKind.i64.wrap (v3 + ((List.getD t24 (Int.toNat t26) default).Net))) < iT then (IntKind.i64.wrap (v3 + ((List.getD t24 (Int.toNat t26) default).Net))) else iT, IntKind.i64.wrap (t26 + (1 : Int)))))
  (some (.inr iT))

noncomputable def uB (v3 : Int) (iT : Int) (t24 : (List aC)) (t25 : Int) (t26 : Int) : Option Int :=
  (lp (fun s => nS t24 t25 s.1 s.2.1 s.2.2) (v3, iT, t26)).bind (fun rr => tS rr)

noncomputable def rC (f0 : (List aC)) (v3 : Int) (iT : Int) : Option Int :=
  uB v3 iT f0 ((List.length f0 : Nat) : Int) (0 : Int)

noncomputable def vN (f0 : (List aC)) : Option Int :=
  (nJ f0).bind fun x1 =>
  cond ((!x1) || (decide (((List.length f0 : Nat) : Int) = (0 : Int))))
  (some (0 : Int))
  (bC (0 ≤ (0 : Int) ∧ (0 : Int) < ((List.length f0 : Nat) : Int)) <|
  cond (decide (((List.getD f0 (Int.toNat (0 : Int)) default).At) = (-1 : Int)))
  (bC (0 ≤ (0 : Int) ∧ (0 : Int) < ((List.length f0 : Nat) : Int)) <|
  rC f0 (0 : Int) ((List.getD f0 (Int.toNat (0 : Int)) default).Net))
  (rC f0 (0 : Int) (0 : Int)))

noncomputable def sG (f0 : (List aC)) : Option Bool :=
  (nJ f0).bind fun x1 =>
  (dL x1 (vN f0)).bind fun x4 =>
  some (x1 && (decide ((0 : Int) ≤ x4)))

noncomputable def oP (l0 : (List aG)) : Option Bool :=
  (uM l0 (fun y0 => sG y0)).bind fun x1 =>
  some x1

noncomputable def pT (w0 : bY) (l1 : (List aG)) (t2 : Int) : Option Int :=
  (pS w0).bind fun x1 =>
  (dL (!(!decide (x1 = (0 : Int)))) (oK l1)).bind fun x4 =>
  cond ((!decide (x1 = (0 : Int))) || (!x4))
  (some (2 : Int))
  ((oP l1).bind fun x8 =>
  cond (!x8)
  (some (20 : Int))
  (cond ((decide (t2 < (0 : Int))) || (decide ((1125899906842624 : Int) < t2)))
  (some (13 : Int))
  (some (0 : Int))))

noncomputable def yO (mK : Int) (hop1 : Int) : Option Bool :=
  some ((((decide ((1 : Int) ≤ mK)) && (decide (mK ≤ (1099511627776 : Int)))) && (decide ((1 : Int) ≤ hop1))) && (decide (hop1 ≤ (1099511627776 : Int))))

noncomputable def tI (t0 : Int) : Option Bool :=
  some ((decide ((0 : Int) ≤ t0)) && (decide (t0 ≤ (1125899906842624 : Int))))

noncomputable def vV (q7 : Int) (r8 : Int) : Option (Int × Int × Int) :=
  some (q7, r8, (0 : Int))

noncomputable def xF (a0 : Int) (b1 : Int) : Option (Int × Int × Int) :=
  cond (decide (b1 < (1 : Int)))
  (some ((0 : Int), (0 : Int), (2 : Int)))
  (bC (b1 ≠ 0) <|
  bC (b1 ≠ 0) <|
  cond (decide ((Int.tmod a0 b1) < (0 : Int)))
  (vV (IntKind.i64.wrap ((IntKind.i64.wrap (Int.tdiv a0 b1)) - (1 : Int))) (IntKind.i64.wrap ((Int.tmod a0 b1) + b1)))
  (vV (IntKind.i64.wrap (Int.tdiv a0 b1)) (Int.tmod a0 b1)))

noncomputable def qC (hop0 : Int) (n1 : Int) : Option Int :=
  cond (decide (n1 < (0 : Int)))
  (some (0 : Int))
  ((xF n1 hop0).bind fun x2 =>
  some (IntKind.i64.wrap ((IntKind.i64.wrap (x2.1 + (1 : Int))) * hop0)))

noncomputable def zJ (mK : Int) (hop1 : Int) (t2 : Int) : Option (Int × Int) :=
  (yO mK hop1).bind fun x1 =>
  cond (!x1)
  (some ((0 : Int), (2 : Int)))
  ((tI t2).bind fun x5 =>
  cond (!x5)
  (some ((0 : Int), (13 : Int)))
  (cond (decide (t2 = (1125899906842624 : Int)))
  (some ((1125899906842624 : Int), (0 : Int)))
  ((qC hop1 (IntKind.i64.wrap (t2 - mK))).bind fun x10 =>
  some (if (1125899906842624 : Int) < x10 then (1125899906842624 : Int) else x10, (0 : Int)))))

noncomputable def rZ (l0 : (List aG)) (n1 : Int) : Option Int :=
  (oK l0).bind fun x1 =>
  cond (((!x1) || (decide (n1 < (1 : Int)))) || (decide ((64 : Int) < n1)))
  (some (2 : Int))
  ((oP l0).bind fun x5 =>
  cond (!x5)
  (some (20 : Int))
  (some (0 : Int)))

noncomputable def pU (l0 : (List aG)) : Option ((List aG)) :=
  some l0

noncomputable def kT {σ : Type} (cG : σ → aG → Option (σ × Bool)) (t5 : (List aG)) (t6 : Int) (sg : σ) (t7 : Int) : Option ((σ × Int) ⊕ (σ ⊕ σ)) :=
  cond (decide (t7 < t6))
  (bC (0 ≤ t7 ∧ t7 < ((List.length t5 : Nat) : Int)) <|
  (AX ((decide ((0 : Int) < ((List.getD t5 (Int.toNat t7) default).Net))) && (decide ((-1 : Int) < ((List.getD t5 (Int.toNat t7) default).At)))) sg (cG sg (List.getD t5 (Int.toNat t7) default))).bind fun (x8, x9) =>
  cond (((decide ((0 : Int) < ((List.getD t5 (Int.toNat t7) default).Net))) && (decide ((-1 : Int) < ((List.getD t5 (Int.toNat t7) default).At)))) && (!x9))
  (some (.inr (.inr x8)))
  (some (.inl (x8, IntKind.i64.wrap (t7 + (1 : Int))))))
  (some (.inr (.inl sg)))

noncomputable def qO {σ : Type} (cG : σ → aG → Option (σ × Bool)) (sg : σ) (t5 : (List aG)) (t6 : Int) (t7 : Int) : Option σ :=
  (lp (fun s => kT cG t5 t6 s.1 s.2) (sg, t7)).bind (Sum.elim (fun rr => some rr) (fun rr => some rr))

noncomputable def mQ {σ : Type} (cG : σ → aG → Option (σ × Bool)) (t1 : (List aG)) (sg0 : σ) : Option σ :=
  qO cG sg0 t1 ((List.length t1 : Nat) : Int) (0 : Int)

noncomputable def mU (x0 : Int) (n2 : Int) : Option Int :=
  bC (0 ≤ (IntKind.u8.wrap x0) ∧ (IntKind.u8.wrap x0) < ((ByteArray.size (⟨#[0, 1, 2, 2, 3, 3, 3, 3, 4, 4, 4, 4, 4, 4, 4, 4, 5, 5, 5, 5, 5, 5, 5, 5, 5, 5, 5, 5, 5, 5, 5, 5, 6, 6, 6, 6, 6, 6, 6, 6, 6, 6, 6, 6, 6, 6, 6, 6, 6, 6, 6, 6, 6, 6, 6, 6, 6, 6, 6, 6, 6, 6, 6, 6, 7, 7, 7, 7, 7, 7, 7, 7, 7, 7, 7, 7, 7, 7, 7, 7, 7, 7, 7, 7, 7, 7, 7, 7, 7, 7, 7, 7, 7, 7, 7, 7, 7, 7, 7, 7, 7, 7, 7, 7, 7, 7, 7, 7, 7, 7, 7, 7, 7, 7, 7, 7, 7, 7, 7, 7, 7, 7, 7, 7, 7, 7, 7, 7, 8, 8, 8, 8, 8, 8, 8, 8, 8, 8, 8, 8, 8, 8, 8, 8, 8, 8, 8, 8, 8, 8, 8, 8, 8, 8, 8, 8, 8, 8, 8, 8, 8, 8, 8, 8, 8, 8, 8, 8, 8, 8, 8, 8, 8, 8, 8, 8, 8, 8, 8, 8, 8, 8, 8, 8, 8, 8, 8, 8, 8, 8, 8, 8, 8, 8, 8, 8, 8, 8, 8, 8, 8, 8, 8, 8, 8, 8, 8, 8, 8, 8, 8, 8, 8, 8, 8, 8, 8, 8, 8, 8, 8, 8, 8, 8, 8, 8, 8, 8, 8, 8, 8, 8, 8, 8, 8, 8, 8, 8, 8, 8, 8, 8, 8, 8, 8, 8, 8, 8, 8, 8, 8, 8, 8, 8, 8, 8]⟩ : ByteArray) : Nat) : Int)) <|
  some (IntKind.i64.wrap (n2 + (IntKind.i64.wrap (bt (⟨#[0, 1, 2, 2, 3, 3, 3, 3, 4, 4, 4, 4, 4, 4, 4, 4, 5, 5, 5, 5, 5, 5, 5, 5, 5, 5, 5, 5, 5, 5, 5, 5, 6, 6, 6, 6, 6, 6, 6, 6, 6, 6, 6, 6, 6, 6, 6, 6, 6, 6, 6, 6, 6, 6, 6, 6, 6, 6, 6, 6, 6, 6, 6, 6, 7, 7, 7, 7, 7, 7, 7, 7, 7, 7, 7, 7, 7, 7, 7, 7, 7, 7, 7, 7, 7, 7, 7, 7, 7, 7, 7, 7, 7, 7, 7, 7, 7, 7, 7, 7, 7, 7, 7, 7, 7, 7, 7, 7, 7, 7, 7, 7, 7, 7, 7, 7, 7, 7, 7, 7, 7, 7, 7, 7, 7, 7, 7, 7, 8, 8, 8, 8, 8, 8, 8, 8, 8, 8, 8, 8, 8, 8, 8, 8, 8, 8, 8, 8, 8, 8, 8, 8, 8, 8, 8, 8, 8, 8, 8, 8, 8, 8, 8, 8, 8, 8, 8, 8, 8, 8, 8, 8, 8, 8, 8, 8, 8, 8, 8, 8, 8, 8, 8, 8, 8, 8, 8, 8, 8, 8, 8, 8, 8, 8, 8, 8, 8, 8, 8, 8, 8, 8, 8, 8, 8, 8, 8, 8, 8, 8, 8, 8, 8, 8, 8, 8, 8, 8, 8, 8, 8, 8, 8, 8, 8, 8, 8, 8, 8, 8, 8, 8, 8, 8, 8, 8, 8, 8, 8, 8, 8, 8, 8, 8, 8, 8, 8, 8, 8, 8, 8, 8, 8, 8, 8, 8]⟩ : ByteArray) (IntKind.u8.wrap x0)))))

noncomputable def lR (x0 : Int) (n2 : Int) : Option Int :=
  cond (decide ((256 : Int) ≤ x0))
  (bC (0 ≤ (8 : Int)) <|
  mU (Int.fdiv x0 (2 ^ (min (Int.toNat (8 : Int)) 64))) (IntKind.i64.wrap (n2 + (8 : Int))))
  (mU x0 n2)

noncomputable def lS (x0 : Int) (n2 : Int) : Option Int :=
  cond (decide ((65536 : Int) ≤ x0))
  (bC (0 ≤ (16 : Int)) <|
  lR (Int.fdiv x0 (2 ^ (min (Int.toNat (16 : Int)) 64))) (IntKind.i64.wrap (n2 + (16 : Int))))
  (lR x0 n2)

noncomputable def pK (x0 : Int) : Option Int :=
  cond (decide ((4294967296 : Int) ≤ x0))
  (bC (0 ≤ (32 : Int)) <|
  lS (Int.fdiv x0 (2 ^ (min (Int.toNat (32 : Int)) 64))) (32 : Int))
  (lS x0 (0 : Int))

noncomputable def kV (x0 : Int) : Option Int :=
  (pK x0).bind fun x2 =>
  some x2

noncomputable def dA (x0 : Int) (y1 : Int) : Option Bool :=
  (kW x0).bind fun x1 =>
  (dL x1 (kW y1)).bind fun x4 =>
  some ((x1 && (!x4)) || (decide (x0 < y1)))

noncomputable def hY (aA : List Int) (a1 : Int) (b2 : Int) (i6 : Int) : Option ((List Int × Int) ⊕ ((List Int))) :=
  some (.inl (aA, IntKind.i64.wrap (i6 + (1 : Int))))

noncomputable def fH (a1 : Int) (b2 : Int) (i6 : Int) (aA : List Int) (j7 : Int) : Option ((List Int × Int) ⊕ ((List Int))) :=
  bC ((((decide (a1 < j7))) = true → 0 ≤ j7 ∧ j7 < ((List.length aA : Nat) : Int))) <|
  bC ((((decide (a1 < j7))) = true → 0 ≤ (IntKind.i64.wrap (j7 - (1 : Int))) ∧ (IntKind.i64.wrap (j7 - (1 : Int))) < ((List.length aA : Nat) : Int))) <|
  (dL (decide (a1 < j7)) (dA (List.getD aA (Int.toNat j7) default) (List.getD aA (Int.toNat (IntKind.i64.wrap (j7 - (1 : Int)))) default))).bind fun x4 =>
  cond ((decide (a1 < j7)) && x4)
  (bC (0 ≤ (IntKind.i64.wrap (j7 - (1 : Int))) ∧ (IntKind.i64.wrap (j7 - (1 : Int))) < ((List.length aA : Nat) : Int)) <|
  bC (0 ≤ j7 ∧ j7 < ((List.length aA : Nat) : Int)) <|
  bC (0 ≤ j7 ∧ j7 < ((List.length aA : Nat) : Int)) <|
  bC (0 ≤ (IntKind.i64.wrap (j7 - (1 : Int))) ∧ (IntKind.i64.wrap (j7 - (1 : Int))) < ((List.length aA : Nat) : Int)) <|
  some (.inl (List.set (List.set aA (Int.toNat j7) (List.getD aA (Int.toNat (IntKind.i64.wrap (j7 - (1 : Int)))) default)) (Int.toNat (IntKind.i64.wrap (j7 - (1 : Int)))) (List.getD aA (Int.toNat j7) default), IntKind.i64.wrap (j7 - (1 : Int)))))
  (some (.inr aA))

noncomputable def jU (aA : List Int) (a1 : Int) (b2 : Int) (i6 : Int) (j7 : Int) : Option ((List Int × Int) ⊕ ((List Int))) :=
  (lp (fun s => fH a1 b2 i6 s.1 s.2) (aA, j7)).bind (fun rr => hY rr a1 b2 i6)

noncomputable def dR (a1 : Int) (b2 : Int) (aA : List Int) (i6 : Int) : Option ((List Int × Int) ⊕ ((List Int))) :=
  cond (decide (i6 < b2))
  (jU aA a1 b2 i6 i6)
  (some (.inr aA))

noncomputable def jW (aA : List Int) (a1 : Int) (b2 : Int) (i6 : Int) : Option (List Int) :=
  (lp (fun s => dR a1 b2 s.1 s.2) (aA, i6)).bind (fun rr => some rr)

noncomputable def iE (aA : (List Int)) (a1 : Int) (b2 : Int) : Option (List Int) :=
  jW aA a1 b2 (IntKind.i64.wrap (a1 + (1 : Int)))

noncomputable def iB (aA : List Int) (hi2 : Int) (bL : Int) (cH : Int) (eD : Int) : Option ((List Int × Int) ⊕ ((List Int) ⊕ (List Int))) :=
  bC (0 ≤ (IntKind.i64.wrap (bL + cH)) ∧ (IntKind.i64.wrap (bL + cH)) < ((List.length aA : Nat) : Int)) <|
  bC (0 ≤ (IntKind.i64.wrap (bL + eD)) ∧ (IntKind.i64.wrap (bL + eD)) < ((List.length aA : Nat) : Int)) <|
  (dA (List.getD aA (Int.toNat (IntKind.i64.wrap (bL + cH))) default) (List.getD aA (Int.toNat (IntKind.i64.wrap (bL + eD))) default)).bind fun x4 =>
  cond (!x4)
  (some (.inr (.inr aA)))
  (bC (0 ≤ (IntKind.i64.wrap (bL + eD)) ∧ (IntKind.i64.wrap (bL + eD)) < ((List.length aA : Nat) : Int)) <|
  bC (0 ≤ (IntKind.i64.wrap (bL + cH)) ∧ (IntKind.i64.wrap (bL + cH)) < ((List.length aA : Nat) : Int)) <|
  bC (0 ≤ (IntKind.i64.wrap (bL + cH)) ∧ (IntKind.i64.wrap (bL + cH)) < ((List.length aA : Nat) : Int)) <|
  bC (0 ≤ (IntKind.i64.wrap (bL + eD)) ∧ (IntKind.i64.wrap (bL + eD)) < ((List.length aA : Nat) : Int)) <|
  some (.inl (List.set (List.set aA (Int.toNat (IntKind.i64.wrap (bL + cH))) (List.getD aA (Int.toNat (IntKind.i64.wrap (bL + eD))) default)) (Int.toNat (IntKind.i64.wrap (bL + eD))) (List.getD aA (Int.toNat (IntKind.i64.wrap (bL + cH))) default), eD)))

noncomputable def dN (hi2 : Int) (bL : Int) (aA : List Int) (cH : Int) : Option ((List Int × Int) ⊕ ((List Int) ⊕ (List Int))) :=
  cond (decide (hi2 ≤ (IntKind.i64.wrap ((IntKind.i64.wrap ((2 : Int) * cH)) + (1 : Int)))))
  (some (.inr (.inl aA)))
  (bC ((((decide ((IntKind.i64.wrap ((IntKind.i64.wrap ((IntKind.i64.wrap ((2 : Int) * cH)) + (1 : Int))) + (1 : Int))) < hi2))) = true → 0 ≤ (IntKind.i64.wrap (bL + (IntKind.i64.wrap ((IntKind.i64.wrap ((2 : Int) * cH)) + (1 : Int))))) ∧ (IntKind.i64.wrap (bL + (IntKind.i64.wrap ((IntKind.i64.wrap ((2 : Int) * cH)) + (1 : Int))))) < ((List.length aA : Nat) : Int))) <|
  bC ((((decide ((IntKind.i64.wrap ((IntKind.i64.wrap ((IntKind.i64.wrap ((2 : Int) * cH)) + (1 : Int))) + (1 : Int))) < hi2))) = true → 0 ≤ (IntKind.i64.wrap ((IntKind.i64.wrap (bL + (IntKind.i64.wrap ((IntKind.i64.wrap ((2 : Int) * cH)) + (1 : Int))))) + (1 : Int))) ∧ (IntKind.i64.wrap ((IntKind.i64.wrap (bL + (IntKind.i64.wrap ((IntKind.i64.wrap ((2 : Int) * cH)) + (1 : Int))))) + (1 : Int))) < ((List.length aA : Nat) : Int))) <|
  (dL (decide ((IntKind.i64.wrap ((IntKind.i64.wrap ((IntKind.i64.wrap ((2 : Int) * cH)) + (1 : Int))) + (1 : Int))) < hi2)) (dA (List.getD aA (Int.toNat (IntKind.i64.wrap (bL + (IntKind.i64.wrap ((IntKind.i64.wrap ((2 : Int) * cH)) + (1 : Int)))))) default) (List.getD aA (Int.toNat (IntKind.i64.wrap ((IntKind.i64.wrap (bL + (IntKind.i64.wrap ((IntKind.i64.wrap ((2 : Int) * cH)) + (1 : Int))))) + (1 : Int)))) default))).bind fun x14 =>
  cond ((decide ((IntKind.i64.wrap ((IntKind.i64.wrap ((IntKind.i64.wrap ((2 : Int) * cH)) + (1 : Int))) + (1 : Int))) < hi2)) && x14)
  (iB aA hi2 bL cH (IntKind.i64.wrap ((IntKind.i64.wrap ((IntKind.i64.wrap ((2 : Int) * cH)) + (1 : Int))) + (1 : Int))))
  (iB aA hi2 bL cH (IntKind.i64.wrap ((IntKind.i64.wrap ((2 : Int) * cH)) + (1 : Int)))))

noncomputable def lJ (aA : List Int) (hi2 : Int) (bL : Int) (cH : Int) : Option (List Int) :=
  (lp (fun s => dN hi2 bL s.1 s.2) (aA, cH)).bind (Sum.elim (fun rr => some rr) (fun rr => some rr))

noncomputable def gE (aA : (List Int)) (lo1 : Int) (hi2 : Int) (bL : Int) : Option (List Int) :=
  lJ aA hi2 bL lo1

noncomputable def eF (bS : Int) (lo7 : Int) (aA : List Int) (i10 : Int) : Option ((List Int × Int) ⊕ ((List Int))) :=
  cond (decide ((0 : Int) ≤ i10))
  (bC (0 ≤ (IntKind.i64.wrap (bS + i10)) ∧ (IntKind.i64.wrap (bS + i10)) < ((List.length aA : Nat) : Int)) <|
  bC (0 ≤ bS ∧ bS < ((List.length aA : Nat) : Int)) <|
  bC (0 ≤ bS ∧ bS < ((List.length aA : Nat) : Int)) <|
  bC (0 ≤ (IntKind.i64.wrap (bS + i10)) ∧ (IntKind.i64.wrap (bS + i10)) < ((List.length aA : Nat) : Int)) <|
  (gE (List.set (List.set aA (Int.toNat bS) (List.getD aA (Int.toNat (IntKind.i64.wrap (bS + i10))) default)) (Int.toNat (IntKind.i64.wrap (bS + i10))) (List.getD aA (Int.toNat bS) default)) lo7 i10 bS).bind fun x6 =>
  some (.inl (x6, IntKind.i64.wrap (i10 - (1 : Int)))))
  (some (.inr aA))

noncomputable def lI (aA : List Int) (bS : Int) (lo7 : Int) (i10 : Int) : Option (List Int) :=
  (lp (fun s => eF bS lo7 s.1 s.2) (aA, i10)).bind (fun rr => some rr)

noncomputable def jO (aA : List Int) (bS : Int) (lo7 : Int) (hi8 : Int) : Option (List Int) :=
  lI aA bS lo7 (IntKind.i64.wrap (hi8 - (1 : Int)))

noncomputable def eG (bS : Int) (lo7 : Int) (hi8 : Int) (aA : List Int) (i9 : Int) : Option ((List Int × Int) ⊕ ((List Int))) :=
  cond (decide ((0 : Int) ≤ i9))
  ((gE aA i9 hi8 bS).bind fun x11 =>
  some (.inl (x11, IntKind.i64.wrap (i9 - (1 : Int)))))
  (some (.inr aA))

noncomputable def lK (aA : List Int) (bS : Int) (lo7 : Int) (hi8 : Int) (i9 : Int) : Option (List Int) :=
  (lp (fun s => eG bS lo7 hi8 s.1 s.2) (aA, i9)).bind (fun rr => jO rr bS lo7 hi8)

noncomputable def kB (aA : (List Int)) (a1 : Int) (b2 : Int) : Option (List Int) :=
  bC ((2 : Int) ≠ 0) <|
  lK aA a1 (0 : Int) (IntKind.i64.wrap (b2 - a1)) (IntKind.i64.wrap (Int.tdiv (IntKind.i64.wrap ((IntKind.i64.wrap (b2 - a1)) - (1 : Int))) (2 : Int)))

noncomputable def mA (FD : Int) : Option Int :=
  (kV (IntKind.u64.wrap FD)).bind fun x1 =>
  bC (0 ≤ x1) <|
  some (IntKind.u64.wrap ((1 : Int) * 2 ^ (min (Int.toNat x1) 64)))

noncomputable def mI (r0 : Int) : Option (Int × Int) :=
  bC (0 ≤ (13 : Int)) <|
  bC (0 ≤ (7 : Int)) <|
  bC (0 ≤ (17 : Int)) <|
  some (bR .xor .u64 (bR .xor .u64 (bR .xor .u64 r0 (IntKind.u64.wrap (r0 * 2 ^ (min (Int.toNat (13 : Int)) 64)))) (Int.fdiv (bR .xor .u64 r0 (IntKind.u64.wrap (r0 * 2 ^ (min (Int.toNat (13 : Int)) 64)))) (2 ^ (min (Int.toNat (7 : Int)) 64)))) (IntKind.u64.wrap ((bR .xor .u64 (bR .xor .u64 r0 (IntKind.u64.wrap (r0 * 2 ^ (min (Int.toNat (13 : Int)) 64)))) (Int.fdiv (bR .xor .u64 r0 (IntKind.u64.wrap (r0 * 2 ^ (min (Int.toNat (13 : Int)) 64)))) (2 ^ (min (Int.toNat (7 : Int)) 64)))) * 2 ^ (min (Int.toNat (17 : Int)) 64))), bR .xor .u64 (bR .xor .u64 (bR .xor .u64 r0 (IntKind.u64.wrap (r0 * 2 ^ (min (Int.toNat (13 : Int)) 64)))) (Int.fdiv (bR .xor .u64 r0 (IntKind.u64.wrap (r0 * 2 ^ (min (Int.toNat (13 : Int)) 64)))) (2 ^ (min (Int.toNat (7 : Int)) 64)))) (IntKind.u64.wrap ((bR .xor .u64 (bR .xor .u64 r0 (IntKind.u64.wrap (r0 * 2 ^ (min (Int.toNat (13 : Int)) 64)))) (Int.fdiv (bR .xor .u64 r0 (IntKind.u64.wrap (r0 * 2 ^ (min (Int.toNat (13 : Int)) 64)))) (2 ^ (min (Int.toNat (7 : Int)) 64)))) * 2 ^ (min (Int.toNat (17 : Int)) 64))))

noncomputable def fF (aA : List Int) (a1 : Int) (kQ : Int) (mH : Int) (jH : Int) (idx9 : Int) (gJ : Int) : Option ((List Int × Int × Int) ⊕ ((List Int))) :=
  bC (0 ≤ (IntKind.i64.wrap (a1 + gJ)) ∧ (IntKind.i64.wrap (a1 + gJ)) < ((List.length aA : Nat) : Int)) <|
  bC (0 ≤ idx9 ∧ idx9 < ((List.length aA : Nat) : Int)) <|
  bC (0 ≤ idx9 ∧ idx9 < ((List.length aA : Nat) : Int)) <|
  bC (0 ≤ (IntKind.i64.wrap (a1 + gJ)) ∧ (IntKind.i64.wrap (a1 + gJ)) < ((List.length aA : Nat) : Int)) <|
  some (.inl (List.set (List.set aA (Int.toNat idx9) (List.getD aA (Int.toNat (IntKind.i64.wrap (a1 + gJ))) default)) (Int.toNat (IntKind.i64.wrap (a1 + gJ))) (List.getD aA (Int.toNat idx9) default), mH, IntKind.i64.wrap (idx9 + (1 : Int))))

noncomputable def dG (a1 : Int) (kQ : Int) (jH : Int) (aA : List Int) (mH : Int) (idx9 : Int) : Option ((List Int × Int × Int) ⊕ ((List Int))) :=
  bC ((4 : Int) ≠ 0) <|
  cond (decide (idx9 ≤ (IntKind.i64.wrap ((IntKind.i64.wrap (a1 + (IntKind.i64.wrap ((IntKind.i64.wrap (Int.tdiv kQ (4 : Int))) * (2 : Int))))) + (1 : Int)))))
  ((mI mH).bind fun x9 =>
  cond (decide (kQ ≤ (IntKind.i64.wrap (bR .and .u64 x9.1 (IntKind.u64.wrap (jH - (1 : Int)))))))
  (fF aA a1 kQ x9.2 jH idx9 (IntKind.i64.wrap ((IntKind.i64.wrap (bR .and .u64 x9.1 (IntKind.u64.wrap (jH - (1 : Int))))) - kQ)))
  (fF aA a1 kQ x9.2 jH idx9 (IntKind.i64.wrap (bR .and .u64 x9.1 (IntKind.u64.wrap (jH - (1 : Int)))))))
  (some (.inr aA))

noncomputable def jX (aA : List Int) (a1 : Int) (kQ : Int) (mH : Int) (jH : Int) (idx9 : Int) : Option (List Int) :=
  (lp (fun s => dG a1 kQ jH s.1 s.2.1 s.2.2) (aA, mH, idx9)).bind (fun rr => some rr)

noncomputable def iF (aA : (List Int)) (a1 : Int) (b2 : Int) : Option (List Int) :=
  cond (decide ((8 : Int) ≤ (IntKind.i64.wrap (b2 - a1))))
  ((mA (IntKind.i64.wrap (b2 - a1))).bind fun x3 =>
  bC ((4 : Int) ≠ 0) <|
  jX aA a1 (IntKind.i64.wrap (b2 - a1)) (IntKind.u64.wrap (IntKind.i64.wrap (b2 - a1))) x3 (IntKind.i64.wrap ((IntKind.i64.wrap (a1 + (IntKind.i64.wrap ((IntKind.i64.wrap (Int.tdiv (IntKind.i64.wrap (b2 - a1)) (4 : Int))) * (2 : Int))))) - (1 : Int))))
  (some aA)

noncomputable def gV (aA : (List Int)) (a1 : Int) (b2 : Int) (tR : Int) : Option ((Int × Int) × Int) :=
  bC (0 ≤ b2 ∧ b2 < ((List.length aA : Nat) : Int)) <|
  bC (0 ≤ a1 ∧ a1 < ((List.length aA : Nat) : Int)) <|
  (dA (List.getD aA (Int.toNat b2) default) (List.getD aA (Int.toNat a1) default)).bind fun x3 =>
  cond x3
  (some ((b2, a1), IntKind.i64.wrap (tR + (1 : Int))))
  (some ((a1, b2), tR))

noncomputable def iY (aA : (List Int)) (a1 : Int) (b2 : Int) (c3 : Int) (IE : Int) : Option (Int × Int) :=
  (gV aA a1 b2 IE).bind fun x1 =>
  (gV aA x1.1.2 c3 x1.2).bind fun x6 =>
  (gV aA x1.1.1 x6.1.1 x6.2).bind fun x11 =>
  some (x11.1.2, x11.2)

noncomputable def eB (aA : (List Int)) (a1 : Int) (IB : Int) : Option (Int × Int) :=
  (iY aA (IntKind.i64.wrap (a1 - (1 : Int))) a1 (IntKind.i64.wrap (a1 + (1 : Int))) IB).bind fun x1 =>
  some (x1.1, x1.2)

noncomputable def fV (aA : List Int) (nD : Int) (j11 : Int) : Option (Int × Int) :=
  cond (decide (nD = (0 : Int)))
  (some (j11, (1 : Int)))
  (cond (decide (nD = (12 : Int)))
  (some (j11, (2 : Int)))
  (some (j11, (0 : Int))))

noncomputable def fY (aA : List Int) (nD : Int) (i10 : Int) (j11 : Int) (k12 : Int) : Option (Int × Int) :=
  (iY aA i10 j11 k12 nD).bind fun x8 =>
  fV aA x8.2 x8.1

noncomputable def iU (aA : (List Int)) (a1 : Int) (b2 : Int) : Option (Int × Int) :=
  bC ((4 : Int) ≠ 0) <|
  bC ((4 : Int) ≠ 0) <|
  bC ((4 : Int) ≠ 0) <|
  cond (decide ((8 : Int) ≤ (IntKind.i64.wrap (b2 - a1))))
  (cond (decide ((50 : Int) ≤ (IntKind.i64.wrap (b2 - a1))))
  ((eB aA (IntKind.i64.wrap (a1 + (IntKind.i64.wrap ((IntKind.i64.wrap (Int.tdiv (IntKind.i64.wrap (b2 - a1)) (4 : Int))) * (1 : Int))))) 0).bind fun x14 =>
  (eB aA (IntKind.i64.wrap (a1 + (IntKind.i64.wrap ((IntKind.i64.wrap (Int.tdiv (IntKind.i64.wrap (b2 - a1)) (4 : Int))) * (2 : Int))))) x14.2).bind fun x19 =>
  (eB aA (IntKind.i64.wrap (a1 + (IntKind.i64.wrap ((IntKind.i64.wrap (Int.tdiv (IntKind.i64.wrap (b2 - a1)) (4 : Int))) * (3 : Int))))) x19.2).bind fun x24 =>
  fY aA x24.2 x14.1 x19.1 x24.1)
  (fY aA 0 (IntKind.i64.wrap (a1 + (IntKind.i64.wrap ((IntKind.i64.wrap (Int.tdiv (IntKind.i64.wrap (b2 - a1)) (4 : Int))) * (1 : Int))))) (IntKind.i64.wrap (a1 + (IntKind.i64.wrap ((IntKind.i64.wrap (Int.tdiv (IntKind.i64.wrap (b2 - a1)) (4 : Int))) * (2 : Int))))) (IntKind.i64.wrap (a1 + (IntKind.i64.wrap ((IntKind.i64.wrap (Int.tdiv (IntKind.i64.wrap (b2 - a1)) (4 : Int))) * (3 : Int)))))))
  (fV aA 0 (IntKind.i64.wrap (a1 + (IntKind.i64.wrap ((IntKind.i64.wrap (Int.tdiv (IntKind.i64.wrap (b2 - a1)) (4 : Int))) * (2 : Int))))))

noncomputable def dU  (aA : List Int) (i6 : Int) (j7 : Int) : Option ((List Int × Int × Int) ⊕ ((List Int))) :=
  cond (decide (i6 < j7))
  (bC (0 ≤ j7 ∧ j7 < ((List.length aA : Nat) : Int)) <|
  bC (0 ≤ i6 ∧ i6 < ((List.length aA : Nat) : Int)) <|
  bC (0 ≤ i6 ∧ i6 < ((List.length aA : Nat) : Int)) <|
  bC (0 ≤ j7 ∧ j7 < ((List.length aA : Nat) : Int)) <|
  some (.inl (List.set (List.set aA (Int.toNat i6) (List.getD aA (Int.toNat j7) default)) (Int.toNat j7) (List.getD aA (Int.toNat i6) default), IntKind.i64.wrap (i6 + (1 : Int)), IntKind.i64.wrap (j7 - (1 : Int)))))
  (some (.inr aA))

noncomputable def kC (aA : List Int) (i6 : Int) (j7 : Int) : Option (List Int) :=
  (lp (fun s => dU s.1 s.2.1 s.2.2) (aA, i6, j7)).bind (fun rr => some rr)

noncomputable def iN (aA : (List Int)) (a1 : Int) (b2 : Int) : Option (List Int) :=
  kC aA a1 (IntKind.i64.wrap (b2 - (1 : Int)))

noncomputable def eT (aA : List Int) : Option (Bool × List Int) :=
  some (false, aA)

noncomputable def dV (aA : List Int) (a1 : Int) (b2 : Int) (i7 : Int) (j8 : Int) : Option ((List Int × Int × Int) ⊕ ((List Int) ⊕ (Bool × (List Int)))) :=
  some (.inl (aA, i7, IntKind.i64.wrap (j8 + (1 : Int))))

noncomputable def cR (a1 : Int) (b2 : Int) (i7 : Int) (j8 : Int) (aA : List Int) (j10 : Int) : Option ((List Int × Int) ⊕ ((List Int))) :=
  cond (decide (j10 < b2))
  (bC (0 ≤ j10 ∧ j10 < ((List.length aA : Nat) : Int)) <|
  bC (0 ≤ (IntKind.i64.wrap (j10 - (1 : Int))) ∧ (IntKind.i64.wrap (j10 - (1 : Int))) < ((List.length aA : Nat) : Int)) <|
  (dA (List.getD aA (Int.toNat j10) default) (List.getD aA (Int.toNat (IntKind.i64.wrap (j10 - (1 : Int)))) default)).bind fun x12 =>
  cond (!x12)
  (some (.inr aA))
  (bC (0 ≤ (IntKind.i64.wrap (j10 - (1 : Int))) ∧ (IntKind.i64.wrap (j10 - (1 : Int))) < ((List.length aA : Nat) : Int)) <|
  bC (0 ≤ j10 ∧ j10 < ((List.length aA : Nat) : Int)) <|
  bC (0 ≤ j10 ∧ j10 < ((List.length aA : Nat) : Int)) <|
  bC (0 ≤ (IntKind.i64.wrap (j10 - (1 : Int))) ∧ (IntKind.i64.wrap (j10 - (1 : Int))) < ((List.length aA : Nat) : Int)) <|
  some (.inl (List.set (List.set aA (Int.toNat j10) (List.getD aA (Int.toNat (IntKind.i64.wrap (j10 - (1 : Int)))) default)) (Int.toNat (IntKind.i64.wrap (j10 - (1 : Int)))) (List.getD aA (Int.toNat j10) default), IntKind.i64.wrap (j10 + (1 : Int))))))
  (some (.inr aA))

noncomputable def gY (aA : List Int) (a1 : Int) (b2 : Int) (i7 : Int) (j8 : Int) (j10 : Int) : Option ((List Int × Int × Int) ⊕ ((List Int) ⊕ (Bool × (List Int)))) :=
  (lp (fun s => cR a1 b2 i7 j8 s.1 s.2) (aA, j10)).bind (fun rr => dV rr a1 b2 i7 j8)

noncomputable def cK (aA : List Int) (a1 : Int) (b2 : Int) (i7 : Int) (j8 : Int) : Option ((List Int × Int × Int) ⊕ ((List Int) ⊕ (Bool × (List Int)))) :=
  cond (decide ((2 : Int) ≤ (IntKind.i64.wrap (b2 - i7))))
  (gY aA a1 b2 i7 j8 (IntKind.i64.wrap (i7 + (1 : Int))))
  (dV aA a1 b2 i7 j8)

noncomputable def cL (a1 : Int) (b2 : Int) (i7 : Int) (j8 : Int) (aA : List Int) (j9 : Int) : Option ((List Int × Int) ⊕ ((List Int))) :=
  cond (decide ((1 : Int) ≤ j9))
  (bC (0 ≤ j9 ∧ j9 < ((List.length aA : Nat) : Int)) <|
  bC (0 ≤ (IntKind.i64.wrap (j9 - (1 : Int))) ∧ (IntKind.i64.wrap (j9 - (1 : Int))) < ((List.length aA : Nat) : Int)) <|
  (dA (List.getD aA (Int.toNat j9) default) (List.getD aA (Int.toNat (IntKind.i64.wrap (j9 - (1 : Int)))) default)).bind fun x24 =>
  cond (!x24)
  (some (.inr aA))
  (bC (0 ≤ (IntKind.i64.wrap (j9 - (1 : Int))) ∧ (IntKind.i64.wrap (j9 - (1 : Int))) < ((List.length aA : Nat) : Int)) <|
  bC (0 ≤ j9 ∧ j9 < ((List.length aA : Nat) : Int)) <|
  bC (0 ≤ j9 ∧ j9 < ((List.length aA : Nat) : Int)) <|
  bC (0 ≤ (IntKind.i64.wrap (j9 - (1 : Int))) ∧ (IntKind.i64.wrap (j9 - (1 : Int))) < ((List.length aA : Nat) : Int)) <|
  some (.inl (List.set (List.set aA (Int.toNat j9) (List.getD aA (Int.toNat (IntKind.i64.wrap (j9 - (1 : Int)))) default)) (Int.toNat (IntKind.i64.wrap (j9 - (1 : Int)))) (List.getD aA (Int.toNat j9) default), IntKind.i64.wrap (j9 - (1 : Int))))))
  (some (.inr aA))

noncomputable def gZ (aA : List Int) (a1 : Int) (b2 : Int) (i7 : Int) (j8 : Int) (j9 : Int) : Option ((List Int × Int × Int) ⊕ ((List Int) ⊕ (Bool × (List Int)))) :=
  (lp (fun s => cL a1 b2 i7 j8 s.1 s.2) (aA, j9)).bind (fun rr => cK rr a1 b2 i7 j8)

noncomputable def eS (aA : List Int) (a1 : Int) (b2 : Int) (i7 : Int) (j8 : Int) : Option ((List Int × Int × Int) ⊕ ((List Int) ⊕ (Bool × (List Int)))) :=
  cond (decide (i7 = b2))
  (some (.inr (.inr (true, aA))))
  (cond (decide ((IntKind.i64.wrap (b2 - a1)) < (50 : Int)))
  (some (.inr (.inr (false, aA))))
  (bC (0 ≤ (IntKind.i64.wrap (i7 - (1 : Int))) ∧ (IntKind.i64.wrap (i7 - (1 : Int))) < ((List.length aA : Nat) : Int)) <|
  bC (0 ≤ i7 ∧ i7 < ((List.length aA : Nat) : Int)) <|
  bC (0 ≤ i7 ∧ i7 < ((List.length aA : Nat) : Int)) <|
  bC (0 ≤ (IntKind.i64.wrap (i7 - (1 : Int))) ∧ (IntKind.i64.wrap (i7 - (1 : Int))) < ((List.length aA : Nat) : Int)) <|
  cond (decide ((2 : Int) ≤ (IntKind.i64.wrap (i7 - a1))))
  (gZ (List.set (List.set aA (Int.toNat i7) (List.getD aA (Int.toNat (IntKind.i64.wrap (i7 - (1 : Int)))) default)) (Int.toNat (IntKind.i64.wrap (i7 - (1 : Int)))) (List.getD aA (Int.toNat i7) default)) a1 b2 i7 j8 (IntKind.i64.wrap (i7 - (1 : Int))))
  (cK (List.set (List.set aA (Int.toNat i7) (List.getD aA (Int.toNat (IntKind.i64.wrap (i7 - (1 : Int)))) default)) (Int.toNat (IntKind.i64.wrap (i7 - (1 : Int)))) (List.getD aA (Int.toNat i7) default)) a1 b2 i7 j8)))

noncomputable def cS (a1 : Int) (b2 : Int) (j8 : Int) (aA : List Int) (i7 : Int) : Option ((List Int × Int) ⊕ ((List Int × Int))) :=
  bC ((((decide (i7 < b2))) = true → 0 ≤ i7 ∧ i7 < ((List.length aA : Nat) : Int))) <|
  bC ((((decide (i7 < b2))) = true → 0 ≤ (IntKind.i64.wrap (i7 - (1 : Int))) ∧ (IntKind.i64.wrap (i7 - (1 : Int))) < ((List.length aA : Nat) : Int))) <|
  (dL (decide (i7 < b2)) (dA (List.getD aA (Int.toNat i7) default) (List.getD aA (Int.toNat (IntKind.i64.wrap (i7 - (1 : Int)))) default))).bind fun x34 =>
  cond ((decide (i7 < b2)) && (!x34))
  (some (.inl (aA, IntKind.i64.wrap (i7 + (1 : Int)))))
  (some (.inr (aA, i7)))

noncomputable def dJ (aA : List Int) (a1 : Int) (b2 : Int) (i7 : Int) (j8 : Int) : Option ((List Int × Int × Int) ⊕ ((List Int) ⊕ (Bool × (List Int)))) :=
  (lp (fun s => cS a1 b2 j8 s.1 s.2) (aA, i7)).bind (fun rr => eS rr.1 a1 b2 rr.2 j8)

noncomputable def cA (a1 : Int) (b2 : Int) (aA : List Int) (i7 : Int) (j8 : Int) : Option ((List Int × Int × Int) ⊕ ((List Int) ⊕ (Bool × (List Int)))) :=
  cond (decide (j8 < (5 : Int)))
  (dJ aA a1 b2 i7 j8)
  (some (.inr (.inl aA)))

noncomputable def gW (aA : List Int) (a1 : Int) (b2 : Int) (i7 : Int) (j8 : Int) : Option (Bool × List Int) :=
  (lp (fun s => cA a1 b2 s.1 s.2.1 s.2.2) (aA, i7, j8)).bind (Sum.elim (fun rr => eT rr) (fun rr => some (rr.1, rr.2)))

noncomputable def fE (aA : (List Int)) (a1 : Int) (b2 : Int) : Option (Bool × List Int) :=
  gW aA a1 b2 (IntKind.i64.wrap (a1 + (1 : Int))) (0 : Int)

noncomputable def jL (aA : List Int) (i9 : Int) : Option (Int × List Int) :=
  some (i9, aA)

noncomputable def dZ (aA : List Int) (a1 : Int) (i9 : Int) (j10 : Int) : Option ((List Int × Int × Int) ⊕ ((List Int × Int))) :=
  cond (decide (j10 < i9))
  (some (.inr (aA, i9)))
  (bC (0 ≤ j10 ∧ j10 < ((List.length aA : Nat) : Int)) <|
  bC (0 ≤ i9 ∧ i9 < ((List.length aA : Nat) : Int)) <|
  bC (0 ≤ i9 ∧ i9 < ((List.length aA : Nat) : Int)) <|
  bC (0 ≤ j10 ∧ j10 < ((List.length aA : Nat) : Int)) <|
  some (.inl (List.set (List.set aA (Int.toNat i9) (List.getD aA (Int.toNat j10) default)) (Int.toNat j10) (List.getD aA (Int.toNat i9) default), IntKind.i64.wrap (i9 + (1 : Int)), IntKind.i64.wrap (j10 - (1 : Int)))))

noncomputable def dX (a1 : Int) (i9 : Int) (aA : List Int) (j10 : Int) : Option ((List Int × Int) ⊕ ((List Int × Int))) :=
  bC ((((decide (i9 ≤ j10))) = true → 0 ≤ a1 ∧ a1 < ((List.length aA : Nat) : Int))) <|
  bC ((((decide (i9 ≤ j10))) = true → 0 ≤ j10 ∧ j10 < ((List.length aA : Nat) : Int))) <|
  (dL (decide (i9 ≤ j10)) (dA (List.getD aA (Int.toNat a1) default) (List.getD aA (Int.toNat j10) default))).bind fun x12 =>
  cond ((decide (i9 ≤ j10)) && x12)
  (some (.inl (aA, IntKind.i64.wrap (j10 - (1 : Int)))))
  (some (.inr (aA, j10)))

noncomputable def jM (aA : List Int) (a1 : Int) (i9 : Int) (j10 : Int) : Option ((List Int × Int × Int) ⊕ ((List Int × Int))) :=
  (lp (fun s => dX a1 i9 s.1 s.2) (aA, j10)).bind (fun rr => dZ rr.1 a1 i9 rr.2)

noncomputable def gP (aA : List Int) (a1 : Int) (i9 : Int) (j10 : Int) : Option ((List Int × Int × Int) ⊕ ((List Int × Int))) :=
  jM aA a1 i9 j10

noncomputable def dY (a1 : Int) (j10 : Int) (aA : List Int) (i9 : Int) : Option ((List Int × Int) ⊕ ((List Int × Int))) :=
  bC ((((decide (i9 ≤ j10))) = true → 0 ≤ a1 ∧ a1 < ((List.length aA : Nat) : Int))) <|
  bC ((((decide (i9 ≤ j10))) = true → 0 ≤ i9 ∧ i9 < ((List.length aA : Nat) : Int))) <|
  (dL (decide (i9 ≤ j10)) (dA (List.getD aA (Int.toNat a1) default) (List.getD aA (Int.toNat i9) default))).bind fun x18 =>
  cond ((decide (i9 ≤ j10)) && (!x18))
  (some (.inl (aA, IntKind.i64.wrap (i9 + (1 : Int)))))
  (some (.inr (aA, i9)))

noncomputable def jK (aA : List Int) (a1 : Int) (i9 : Int) (j10 : Int) : Option ((List Int × Int × Int) ⊕ ((List Int × Int))) :=
  (lp (fun s => dY a1 j10 s.1 s.2) (aA, i9)).bind (fun rr => gP rr.1 a1 rr.2 j10)

noncomputable def dB (a1 : Int) (aA : List Int) (i9 : Int) (j10 : Int) : Option ((List Int × Int × Int) ⊕ ((List Int × Int))) :=
  jK aA a1 i9 j10

noncomputable def jN (aA : List Int) (a1 : Int) (i9 : Int) (j10 : Int) : Option (Int × List Int) :=
  (lp (fun s => dB a1 s.1 s.2.1 s.2.2) (aA, i9, j10)).bind (fun rr => jL rr.1 rr.2)

noncomputable def fG (aA : (List Int)) (a1 : Int) (b2 : Int) (cM : Int) : Option (Int × List Int) :=
  bC (0 ≤ cM ∧ cM < ((List.length aA : Nat) : Int)) <|
  bC (0 ≤ a1 ∧ a1 < ((List.length aA : Nat) : Int)) <|
  bC (0 ≤ a1 ∧ a1 < ((List.length aA : Nat) : Int)) <|
  bC (0 ≤ cM ∧ cM < ((List.length aA : Nat) : Int)) <|
  jN (List.set (List.set aA (Int.toNat a1) (List.getD aA (Int.toNat cM) default)) (Int.toNat cM) (List.getD aA (Int.toNat a1) default)) a1 (IntKind.i64.wrap (a1 + (1 : Int))) (IntKind.i64.wrap (b2 - (1 : Int)))

noncomputable def jC (aA : List Int) (a1 : Int) (j11 : Int) : Option ((Int × Bool) × List Int) :=
  bC (0 ≤ a1 ∧ a1 < ((List.length aA : Nat) : Int)) <|
  bC (0 ≤ j11 ∧ j11 < ((List.length aA : Nat) : Int)) <|
  bC (0 ≤ j11 ∧ j11 < ((List.length aA : Nat) : Int)) <|
  bC (0 ≤ a1 ∧ a1 < ((List.length aA : Nat) : Int)) <|
  some ((j11, false), (List.set (List.set aA (Int.toNat j11) (List.getD aA (Int.toNat a1) default)) (Int.toNat a1) (List.getD aA (Int.toNat j11) default)))

noncomputable def eZ (aA : List Int) (a1 : Int) (i10 : Int) (j11 : Int) : Option ((List Int × Int × Int) ⊕ ((List Int × Int))) :=
  cond (decide (j11 < i10))
  (some (.inr (aA, j11)))
  (bC (0 ≤ j11 ∧ j11 < ((List.length aA : Nat) : Int)) <|
  bC (0 ≤ i10 ∧ i10 < ((List.length aA : Nat) : Int)) <|
  bC (0 ≤ i10 ∧ i10 < ((List.length aA : Nat) : Int)) <|
  bC (0 ≤ j11 ∧ j11 < ((List.length aA : Nat) : Int)) <|
  some (.inl (List.set (List.set aA (Int.toNat i10) (List.getD aA (Int.toNat j11) default)) (Int.toNat j11) (List.getD aA (Int.toNat i10) default), IntKind.i64.wrap (i10 + (1 : Int)), IntKind.i64.wrap (j11 - (1 : Int)))))

noncomputable def eY (a1 : Int) (i10 : Int) (aA : List Int) (j11 : Int) : Option ((List Int × Int) ⊕ ((List Int × Int))) :=
  bC ((((decide (i10 ≤ j11))) = true → 0 ≤ j11 ∧ j11 < ((List.length aA : Nat) : Int))) <|
  bC ((((decide (i10 ≤ j11))) = true → 0 ≤ a1 ∧ a1 < ((List.length aA : Nat) : Int))) <|
  (dL (decide (i10 ≤ j11)) (dA (List.getD aA (Int.toNat j11) default) (List.getD aA (Int.toNat a1) default))).bind fun x25 =>
  cond ((decide (i10 ≤ j11)) && (!x25))
  (some (.inl (aA, IntKind.i64.wrap (j11 - (1 : Int)))))
  (some (.inr (aA, j11)))

noncomputable def lC (aA : List Int) (a1 : Int) (i10 : Int) (j11 : Int) : Option ((List Int × Int × Int) ⊕ ((List Int × Int))) :=
  (lp (fun s => eY a1 i10 s.1 s.2) (aA, j11)).bind (fun rr => eZ rr.1 a1 i10 rr.2)

noncomputable def jA (aA : List Int) (a1 : Int) (i10 : Int) (j11 : Int) : Option ((List Int × Int × Int) ⊕ ((List Int × Int))) :=
  lC aA a1 i10 j11

noncomputable def fC (a1 : Int) (j11 : Int) (aA : List Int) (i10 : Int) : Option ((List Int × Int) ⊕ ((List Int × Int))) :=
  bC ((((decide (i10 ≤ j11))) = true → 0 ≤ i10 ∧ i10 < ((List.length aA : Nat) : Int))) <|
  bC ((((decide (i10 ≤ j11))) = true → 0 ≤ a1 ∧ a1 < ((List.length aA : Nat) : Int))) <|
  (dL (decide (i10 ≤ j11)) (dA (List.getD aA (Int.toNat i10) default) (List.getD aA (Int.toNat a1) default))).bind fun x31 =>
  cond ((decide (i10 ≤ j11)) && x31)
  (some (.inl (aA, IntKind.i64.wrap (i10 + (1 : Int)))))
  (some (.inr (aA, i10)))

noncomputable def lE (aA : List Int) (a1 : Int) (i10 : Int) (j11 : Int) : Option ((List Int × Int × Int) ⊕ ((List Int × Int))) :=
  (lp (fun s => fC a1 j11 s.1 s.2) (aA, i10)).bind (fun rr => jA rr.1 a1 rr.2 j11)

noncomputable def dS (a1 : Int) (aA : List Int) (i10 : Int) (j11 : Int) : Option ((List Int × Int × Int) ⊕ ((List Int × Int))) :=
  lE aA a1 i10 j11

noncomputable def kU (aA : List Int) (a1 : Int) (i10 : Int) (j11 : Int) : Option ((Int × Bool) × List Int) :=
  (lp (fun s => dS a1 s.1 s.2.1 s.2.2) (aA, i10, j11)).bind (fun rr => jC rr.1 a1 rr.2)

noncomputable def fA (aA : List Int) (a1 : Int) (i10 : Int) (j11 : Int) : Option ((Int × Bool) × List Int) :=
  cond (decide (j11 < i10))
  (bC (0 ≤ a1 ∧ a1 < ((List.length aA : Nat) : Int)) <|
  bC (0 ≤ j11 ∧ j11 < ((List.length aA : Nat) : Int)) <|
  bC (0 ≤ j11 ∧ j11 < ((List.length aA : Nat) : Int)) <|
  bC (0 ≤ a1 ∧ a1 < ((List.length aA : Nat) : Int)) <|
  some ((j11, true), (List.set (List.set aA (Int.toNat j11) (List.getD aA (Int.toNat a1) default)) (Int.toNat a1) (List.getD aA (Int.toNat j11) default))))
  (bC (0 ≤ j11 ∧ j11 < ((List.length aA : Nat) : Int)) <|
  bC (0 ≤ i10 ∧ i10 < ((List.length aA : Nat) : Int)) <|
  bC (0 ≤ i10 ∧ i10 < ((List.length aA : Nat) : Int)) <|
  bC (0 ≤ j11 ∧ j11 < ((List.length aA : Nat) : Int)) <|
  kU (List.set (List.set aA (Int.toNat i10) (List.getD aA (Int.toNat j11) default)) (Int.toNat j11) (List.getD aA (Int.toNat i10) default)) a1 (IntKind.i64.wrap (i10 + (1 : Int))) (IntKind.i64.wrap (j11 - (1 : Int))))

noncomputable def eX (a1 : Int) (i10 : Int) (aA : List Int) (j11 : Int) : Option ((List Int × Int) ⊕ ((List Int × Int))) :=
  bC ((((decide (i10 ≤ j11))) = true → 0 ≤ j11 ∧ j11 < ((List.length aA : Nat) : Int))) <|
  bC ((((decide (i10 ≤ j11))) = true → 0 ≤ a1 ∧ a1 < ((List.length aA : Nat) : Int))) <|
  (dL (decide (i10 ≤ j11)) (dA (List.getD aA (Int.toNat j11) default) (List.getD aA (Int.toNat a1) default))).bind fun x37 =>
  cond ((decide (i10 ≤ j11)) && (!x37))
  (some (.inl (aA, IntKind.i64.wrap (j11 - (1 : Int)))))
  (some (.inr (aA, j11)))

noncomputable def kY (aA : List Int) (a1 : Int) (i10 : Int) (j11 : Int) : Option ((Int × Bool) × List Int) :=
  (lp (fun s => eX a1 i10 s.1 s.2) (aA, j11)).bind (fun rr => fA rr.1 a1 i10 rr.2)

noncomputable def jF (aA : List Int) (a1 : Int) (i10 : Int) (j11 : Int) : Option ((Int × Bool) × List Int) :=
  kY aA a1 i10 j11

noncomputable def eR (a1 : Int) (j11 : Int) (aA : List Int) (i10 : Int) : Option ((List Int × Int) ⊕ ((List Int × Int))) :=
  bC ((((decide (i10 ≤ j11))) = true → 0 ≤ i10 ∧ i10 < ((List.length aA : Nat) : Int))) <|
  bC ((((decide (i10 ≤ j11))) = true → 0 ≤ a1 ∧ a1 < ((List.length aA : Nat) : Int))) <|
  (dL (decide (i10 ≤ j11)) (dA (List.getD aA (Int.toNat i10) default) (List.getD aA (Int.toNat a1) default))).bind fun x43 =>
  cond ((decide (i10 ≤ j11)) && x43)
  (some (.inl (aA, IntKind.i64.wrap (i10 + (1 : Int)))))
  (some (.inr (aA, i10)))

noncomputable def gI (aA : List Int) (a1 : Int) (i10 : Int) (j11 : Int) : Option ((Int × Bool) × List Int) :=
  (lp (fun s => eR a1 j11 s.1 s.2) (aA, i10)).bind (fun rr => jF rr.1 a1 rr.2 j11)

noncomputable def iA (aA : (List Int)) (a1 : Int) (b2 : Int) (cM : Int) : Option ((Int × Bool) × List Int) :=
  bC (0 ≤ cM ∧ cM < ((List.length aA : Nat) : Int)) <|
  bC (0 ≤ a1 ∧ a1 < ((List.length aA : Nat) : Int)) <|
  bC (0 ≤ a1 ∧ a1 < ((List.length aA : Nat) : Int)) <|
  bC (0 ≤ cM ∧ cM < ((List.length aA : Nat) : Int)) <|
  gI (List.set (List.set aA (Int.toNat a1) (List.getD aA (Int.toNat cM) default)) (Int.toNat cM) (List.getD aA (Int.toNat a1) default)) a1 (IntKind.i64.wrap (a1 + (1 : Int))) (IntKind.i64.wrap (b2 - (1 : Int)))

noncomputable def iL (rec : (List Int) → Int → Int → Int → Option (List Int)) (aA : List Int) (a1 : Int) (b2 : Int) (cD : Int) (bX : Bool) (bP : Bool) (eA : Int) (gR : Int) : Option ((List Int × Int × Int × Int × Bool × Bool) ⊕ ((List Int))) :=
  bC ((((decide ((0 : Int) < a1))) = true → 0 ≤ (IntKind.i64.wrap (a1 - (1 : Int))) ∧ (IntKind.i64.wrap (a1 - (1 : Int))) < ((List.length aA : Nat) : Int))) <|
  bC ((((decide ((0 : Int) < a1))) = true → 0 ≤ gR ∧ gR < ((List.length aA : Nat) : Int))) <|
  (dL (decide ((0 : Int) < a1)) (dA (List.getD aA (Int.toNat (IntKind.i64.wrap (a1 - (1 : Int)))) default) (List.getD aA (Int.toNat gR) default))).bind fun x16 =>
  cond ((decide ((0 : Int) < a1)) && (!x16))
  ((fG aA a1 b2 gR).bind fun x20 =>
  some (.inl (x20.2, x20.1, b2, cD, bX, bP)))
  ((iA aA a1 b2 gR).bind fun x23 =>
  bC ((8 : Int) ≠ 0) <|
  cond (decide ((IntKind.i64.wrap (x23.1.1 - a1)) < (IntKind.i64.wrap (b2 - x23.1.1))))
  ((rec x23.2 a1 x23.1.1 cD).bind fun x28 =>
  some (.inl (x28, IntKind.i64.wrap (x23.1.1 + (1 : Int)), b2, cD, decide ((IntKind.i64.wrap (Int.tdiv eA (8 : Int))) ≤ (IntKind.i64.wrap (x23.1.1 - a1))), x23.1.2)))
  ((rec x23.2 (IntKind.i64.wrap (x23.1.1 + (1 : Int))) b2 cD).bind fun x31 =>
  some (.inl (x31, a1, x23.1.1, cD, decide ((IntKind.i64.wrap (Int.tdiv eA (8 : Int))) ≤ (IntKind.i64.wrap (b2 - x23.1.1))), x23.1.2))))

noncomputable def iJ (rec : (List Int) → Int → Int → Int → Option (List Int)) (aA : List Int) (a1 : Int) (b2 : Int) (cD : Int) (bX : Bool) (bP : Bool) (eA : Int) (gR : Int) (EP : Int) : Option ((List Int × Int × Int × Int × Bool × Bool) ⊕ ((List Int))) :=
  cond ((bX && bP) && (decide (EP = (1 : Int))))
  ((fE aA a1 b2).bind fun x35 =>
  cond x35.1
  (some (.inr x35.2))
  (iL rec x35.2 a1 b2 cD bX bP eA gR))
  (iL rec aA a1 b2 cD bX bP eA gR)

noncomputable def iI (rec : (List Int) → Int → Int → Int → Option (List Int)) (aA : List Int) (a1 : Int) (b2 : Int) (cD : Int) (bX : Bool) (bP : Bool) (eA : Int) : Option ((List Int × Int × Int × Int × Bool × Bool) ⊕ ((List Int))) :=
  (iU aA a1 b2).bind fun x9 =>
  cond (decide (x9.2 = (2 : Int)))
  ((iN aA a1 b2).bind fun x40 =>
  iJ rec x40 a1 b2 cD bX bP eA (IntKind.i64.wrap ((IntKind.i64.wrap (b2 - (1 : Int))) - (IntKind.i64.wrap (x9.1 - a1)))) (1 : Int))
  (iJ rec aA a1 b2 cD bX bP eA x9.1 x9.2)

noncomputable def eN (rec : (List Int) → Int → Int → Int → Option (List Int))  (aA : List Int) (a1 : Int) (b2 : Int) (cD : Int) (bX : Bool) (bP : Bool) : Option ((List Int × Int × Int × Int × Bool × Bool) ⊕ ((List Int))) :=
  cond (decide ((IntKind.i64.wrap (b2 - a1)) ≤ (12 : Int)))
  ((iE aA a1 b2).bind fun x2 =>
  some (.inr x2))
  (cond (decide (cD = (0 : Int)))
  ((kB aA a1 b2).bind fun x6 =>
  some (.inr x6))
  (cond (!bX)
  ((iF aA a1 b2).bind fun x44 =>
  iI rec x44 a1 b2 (IntKind.i64.wrap (cD - (1 : Int))) bX bP (IntKind.i64.wrap (b2 - a1)))
  (iI rec aA a1 b2 cD bX bP (IntKind.i64.wrap (b2 - a1)))))

noncomputable def lX (rec : (List Int) → Int → Int → Int → Option (List Int)) (aA : List Int) (a1 : Int) (b2 : Int) (cD : Int) (bX : Bool) (bP : Bool) : Option (List Int) :=
  (lp (fun s => eN rec s.1 s.2.1 s.2.2.1 s.2.2.2.1 s.2.2.2.2.1 s.2.2.2.2.2) (aA, a1, b2, cD, bX, bP)).bind (fun rr => some rr)

noncomputable def gO (rec : (List Int) → Int → Int → Int → Option (List Int)) (aA : (List Int)) (a1 : Int) (b2 : Int) (cD : Int) : Option (List Int) :=
  lX rec aA a1 b2 cD true true

noncomputable def dP  : Nat → (List Int) → Int → Int → Int → Option (List Int)
  | 0 => fun _ _ _ _ => none
  | k + 1 => gO (dP k)

noncomputable def kF (aA : (List Int)) (a1 : Int) (b2 : Int) (cD : Int) : Option (List Int) := TS (fun k => dP k aA a1 b2 cD)

noncomputable def gQ (x0 : (List Int)) : Option (List Int) :=
  (kV (IntKind.u64.wrap ((List.length x0 : Nat) : Int))).bind fun x1 =>
  (kF x0 (0 : Int) ((List.length x0 : Nat) : Int) x1).bind fun x4 =>
  some x4

noncomputable def lA (s0 : List Int) : Option (List Int) :=
  some s0

noncomputable def mY (s0 : List Int) (k3 : Int) : Option ((List Int × Int) ⊕ ((List Int) ⊕ (List Int))) :=
  some (.inl (s0, IntKind.i64.wrap (k3 + (1 : Int))))

noncomputable def kZ (s0 : List Int) (k3 : Int) : Option ((List Int × Int) ⊕ ((List Int) ⊕ (List Int))) :=
  bC (0 ≤ k3 ∧ k3 ≤ ((List.length s0 : Nat) : Int)) <|
  bC (0 ≤ k3 ∧ k3 ≤ ((List.length (kL (0 + Int.toNat k3) s0) : Nat) : Int)) <|
  bC (Int.toNat k3 ≤ List.length (kL (0 + Int.toNat k3) s0)) <|
  some (.inr (.inr (List.take (Int.toNat k3) (kL (0 + Int.toNat k3) s0))))

noncomputable def jJ (s0 : List Int) (k3 : Int) (k25 : Int) (s24o : Nat) (s24n : Nat) : Option ((List Int × Int × Int) ⊕ ((List Int × Int))) :=
  some (.inl (s0, k3, IntKind.i64.wrap (k25 + (1 : Int))))

noncomputable def fR (s24o : Nat) (s24n : Nat) (s0 : List Int) (k3 : Int) (k25 : Int) : Option ((List Int × Int × Int) ⊕ ((List Int × Int))) :=
  cond (decide (k25 < ((s24n : Nat) : Int)))
  (bC (0 ≤ k25 ∧ k25 < ((s24n : Nat) : Int)) <|
  bC ((s24o + Int.toNat k25) < List.length s0) <|
  bC (0 ≤ (IntKind.i64.wrap (k25 - (1 : Int))) ∧ (IntKind.i64.wrap (k25 - (1 : Int))) < ((s24n : Nat) : Int)) <|
  bC ((s24o + Int.toNat (IntKind.i64.wrap (k25 - (1 : Int)))) < List.length s0) <|
  cond (!decide ((List.getD s0 (s24o + Int.toNat k25) default) = (List.getD s0 (s24o + Int.toNat (IntKind.i64.wrap (k25 - (1 : Int)))) default)))
  (bC (0 ≤ k25 ∧ k25 < ((s24n : Nat) : Int)) <|
  bC ((s24o + Int.toNat k25) < List.length s0) <|
  bC (0 ≤ k3 ∧ k3 < ((List.length s0 : Nat) : Int)) <|
  jJ (List.set s0 (Int.toNat k3) (List.getD s0 (s24o + Int.toNat k25) default)) (IntKind.i64.wrap (k3 + (1 : Int))) k25 s24o s24n)
  (jJ s0 k3 k25 s24o s24n))
  (some (.inr (s0, k3)))

noncomputable def mV (s0 : List Int) (k3 : Int) (k25 : Int) (s24o : Nat) (s24n : Nat) : Option ((List Int × Int) ⊕ ((List Int) ⊕ (List Int))) :=
  (lp (fun s => fR s24o s24n s.1 s.2.1 s.2.2) (s0, k3, k25)).bind (fun rr => kZ rr.1 rr.2)

noncomputable def iD  (s0 : List Int) (k3 : Int) : Option ((List Int × Int) ⊕ ((List Int) ⊕ (List Int))) :=
  cond (decide (k3 < ((List.length s0 : Nat) : Int)))
  (bC (0 ≤ k3 ∧ k3 < ((List.length s0 : Nat) : Int)) <|
  bC (0 ≤ (IntKind.i64.wrap (k3 - (1 : Int))) ∧ (IntKind.i64.wrap (k3 - (1 : Int))) < ((List.length s0 : Nat) : Int)) <|
  cond (decide ((List.getD s0 (Int.toNat k3) default) = (List.getD s0 (Int.toNat (IntKind.i64.wrap (k3 - (1 : Int)))) default)))
  (bC (0 ≤ k3 ∧ k3 ≤ ((List.length s0 : Nat) : Int)) <|
  mV s0 k3 (1 : Int) (0 + Int.toNat k3) (List.length s0 - Int.toNat k3))
  (mY s0 k3))
  (some (.inr (.inl s0)))

noncomputable def mW (s0 : List Int) (k3 : Int) : Option (List Int) :=
  (lp (fun s => iD s.1 s.2) (s0, k3)).bind (Sum.elim (fun rr => lA rr) (fun rr => some rr))

noncomputable def kA (s0 : (List Int)) : Option (List Int) :=
  cond (decide (((List.length s0 : Nat) : Int) < (2 : Int)))
  (some s0)
  (mW s0 (1 : Int))

noncomputable def qL (t7c0 : (List aG)) (out3 : List Int) (t8 : aG) : Option ((List Int) ⊕ (List Int)) :=
  bC ((List.length out3 + List.length ([t8.At])) * 8 ≤ 140737488355328 ∧ List.length out3 + List.length ([t8.At]) ≤ 9223372036854775807) <|
  some (.inl (out3 ++ ([t8.At])))

noncomputable def tQ (out3 : List Int) (t7c0 : (List aG)) : Option (List Int) :=
  (mQ (fun st t8 => rnd (fun (s : List Int) => qL t7c0 s t8) st) t7c0 (.inl out3)).bind (Sum.elim (fun (s : List Int) =>
  ((gQ s).bind fun x10 =>
  (kA x10).bind fun x13 =>
  some x13))
  (fun (s : List Int) =>
  (none)))

noncomputable def oT (l0 : (List aG)) : Option (List Int) :=
  (pU l0).bind fun x3 =>
  tQ ([] : List Int) x3

noncomputable def oM (x0 : Int) : Option Bool :=
  some (!decide (x0 = x0))

noncomputable def jB (x0 : (List Int)) (fT : Int) (n6 : Int) (i7 : Int) : Option (Int × Bool) :=
  bC ((((decide (i7 < n6))) = true → 0 ≤ i7 ∧ i7 < ((List.length x0 : Nat) : Int))) <|
  bC ((((!(decide ((List.getD x0 (Int.toNat i7) default) = fT))) && (decide (i7 < n6))) = true → 0 ≤ i7 ∧ i7 < ((List.length x0 : Nat) : Int))) <|
  (dL ((!(decide ((List.getD x0 (Int.toNat i7) default) = fT))) && (decide (i7 < n6))) (oM (List.getD x0 (Int.toNat i7) default))).bind fun x3 =>
  (dL (x3 && ((!(decide ((List.getD x0 (Int.toNat i7) default) = fT))) && (decide (i7 < n6)))) (oM fT)).bind fun x6 =>
  some (i7, (decide (i7 < n6)) && ((decide ((List.getD x0 (Int.toNat i7) default) = fT)) || (x3 && x6)))

noncomputable def fD (x0 : (List Int)) (fT : Int) (n6 : Int) (i7 : Int) (j8 : Int) : Option ((Int × Int) ⊕ (Int)) :=
  cond (decide (i7 < j8))
  (bC (0 ≤ (1 : Int)) <|
  bC (0 ≤ (IntKind.i64.wrap (Int.fdiv (IntKind.u64.wrap (IntKind.i64.wrap (i7 + j8))) (2 ^ (min (Int.toNat (1 : Int)) 64)))) ∧ (IntKind.i64.wrap (Int.fdiv (IntKind.u64.wrap (IntKind.i64.wrap (i7 + j8))) (2 ^ (min (Int.toNat (1 : Int)) 64)))) < ((List.length x0 : Nat) : Int)) <|
  (dA (List.getD x0 (Int.toNat (IntKind.i64.wrap (Int.fdiv (IntKind.u64.wrap (IntKind.i64.wrap (i7 + j8))) (2 ^ (min (Int.toNat (1 : Int)) 64))))) default) fT).bind fun x12 =>
  cond x12
  (some (.inl (IntKind.i64.wrap ((IntKind.i64.wrap (Int.fdiv (IntKind.u64.wrap (IntKind.i64.wrap (i7 + j8))) (2 ^ (min (Int.toNat (1 : Int)) 64)))) + (1 : Int)), j8)))
  (some (.inl (i7, IntKind.i64.wrap (Int.fdiv (IntKind.u64.wrap (IntKind.i64.wrap (i7 + j8))) (2 ^ (min (Int.toNat (1 : Int)) 64)))))))
  (some (.inr i7))

noncomputable def kX (x0 : (List Int)) (fT : Int) (n6 : Int) (i7 : Int) (j8 : Int) : Option (Int × Bool) :=
  (lp (fun s => fD x0 fT n6 s.1 s.2) (i7, j8)).bind (fun rr => jB x0 fT n6 rr)

noncomputable def fL (x0 : (List Int)) (fT : Int) : Option (Int × Bool) :=
  kX x0 fT ((List.length x0 : Nat) : Int) (0 : Int) ((List.length x0 : Nat) : Int)

noncomputable def tX (l0 : (List aG)) (n1 : Int) (t2 : Int) : Option (Int × Int) :=
  (rZ l0 n1).bind fun x1 =>
  cond (!decide (x1 = (0 : Int)))
  (some ((0 : Int), x1))
  (cond ((decide (t2 < (0 : Int))) || (decide ((1125899906842624 : Int) < t2)))
  (some ((0 : Int), (13 : Int)))
  (cond (decide (t2 = (1125899906842624 : Int)))
  (some (t2, (0 : Int)))
  ((oT l0).bind fun x7 =>
  (fL x7 t2).bind fun x10 =>
  cond (decide ((if (IntKind.i64.wrap ((IntKind.i64.wrap (x10.1 - n1)) + (1 : Int))) > (0 : Int) then (IntKind.i64.wrap ((IntKind.i64.wrap (x10.1 - n1)) + (1 : Int))) else (0 : Int)) = x10.1))
  (some (t2, (0 : Int)))
  (bC (0 ≤ (if (IntKind.i64.wrap ((IntKind.i64.wrap (x10.1 - n1)) + (1 : Int))) > (0 : Int) then (IntKind.i64.wrap ((IntKind.i64.wrap (x10.1 - n1)) + (1 : Int))) else (0 : Int)) ∧ (if (IntKind.i64.wrap ((IntKind.i64.wrap (x10.1 - n1)) + (1 : Int))) > (0 : Int) then (IntKind.i64.wrap ((IntKind.i64.wrap (x10.1 - n1)) + (1 : Int))) else (0 : Int)) < ((List.length x7 : Nat) : Int)) <|
  some (List.getD x7 (Int.toNat (if (IntKind.i64.wrap ((IntKind.i64.wrap (x10.1 - n1)) + (1 : Int))) > (0 : Int) then (IntKind.i64.wrap ((IntKind.i64.wrap (x10.1 - n1)) + (1 : Int))) else (0 : Int))) default, (0 : Int))))))

noncomputable def nZ (w0 : bY) (l1 : (List aG)) (t2 : Int) : Option (Int × Int) :=
  (pT w0 l1 t2).bind fun x1 =>
  cond (!decide (x1 = (0 : Int)))
  (some ((0 : Int), x1))
  (cond (decide (w0.Kind = (2 : Int)))
  ((zJ w0.Size w0.Hop t2).bind fun x6 =>
  some (if t2 < x6.1 then t2 else x6.1, x6.2))
  (cond (decide (w0.Kind = (3 : Int)))
  ((tX l1 w0.Size t2).bind fun x10 =>
  some (x10.1, x10.2))
  (some (t2, (0 : Int)))))

noncomputable def AL (l0 : List aG) : Option (List aG) :=
  some l0

noncomputable def pR (r1 : (List aI)) (t9 : (List aC)) (t10 : Int) (l0 : List aG) (t11 : Int) : Option ((List aG × Int) ⊕ ((List aG))) :=
  cond (decide (t11 < t10))
  (bC (0 ≤ t11 ∧ t11 < ((List.length t9 : Nat) : Int)) <|
  (tB r1).bind fun x7 =>
  bC ((List.length l0 + List.length ([aG.mk x7 ((List.getD t9 (Int.toNat t11) default).At) ((List.getD t9 (Int.toNat t11) default).Net)])) * 40 ≤ 140737488355328 ∧ List.length l0 + List.length ([aG.mk x7 ((List.getD t9 (Int.toNat t11) default).At) ((List.getD t9 (Int.toNat t11) default).Net)]) ≤ 9223372036854775807) <|
  some (.inl (l0 ++ ([aG.mk x7 ((List.getD t9 (Int.toNat t11) default).At) ((List.getD t9 (Int.toNat t11) default).Net)]), IntKind.i64.wrap (t11 + (1 : Int)))))
  (some (.inr l0))

noncomputable def AM (l0 : List aG) (r1 : (List aI)) (t9 : (List aC)) (t10 : Int) (t11 : Int) : Option (List aG) :=
  (lp (fun s => pR r1 t9 t10 s.1 s.2) (l0, t11)).bind (fun rr => AL rr)

noncomputable def zI (l0 : (List aG)) (r1 : (List aI)) (f2 : (List aC)) : Option (List aG) :=
  AM l0 r1 f2 ((List.length f2 : Nat) : Int) (0 : Int)

noncomputable def oC (by1 : (List aC) → Option ((List aC) × Int)) (lV : (List aG)) (t4 : (List aG)) (t5 : Int) (out6 : List aG) (t14 : (List aI)) (t15 : (List aC)) : Option (((List aG) × Int × List aG) ⊕ ((List aG) × Int × List aG)) :=
  (by1 t15).bind fun x8 =>
  cond (!decide (x8.2 = (0 : Int)))
  (some (.inr ([], x8.2, out6)))
  ((zI out6 t14 x8.1).bind fun x12 =>
  cond (decide ((4096 : Int) < ((List.length x12 : Nat) : Int)))
  (some (.inr ([], (7 : Int), x12)))
  (some (.inl (t4, t5, x12))))

noncomputable def wH (by1 : (List aC) → Option ((List aC) × Int)) (t4 : (List aG)) (t5 : Int) (out6 : List aG) (lV : (List aG)) : Option ((List aG) × Int) :=
  (nG (fun st t14 t15 => rnd (fun (s : (List aG) × Int × List aG) => oC by1 lV s.1 s.2.1 s.2.2 t14 t15) st) lV (.inl (t4, t5, out6))).bind (Sum.elim (fun (s : (List aG) × Int × List aG) =>
  (some (s.2.2, (0 : Int))))
  (fun (s : (List aG) × Int × List aG) =>
  (some (s.1, s.2.1))))

noncomputable def tY (l0 : (List aG)) (by1 : (List aC) → Option ((List aC) × Int)) : Option ((List aG) × Int) :=
  (pQ l0).bind fun x5 =>
  wH by1 ([]) 0 ([] : List aG) x5

noncomputable def zN (l0 : (List aG)) (by1 : (List aC) → Option ((List aC) × Int)) : Option ((List aG) × Int) :=
  (oK l0).bind fun x1 =>
  cond (!x1)
  (some ([], (2 : Int)))
  ((tY l0 by1).bind fun x5 =>
  some (x5.1, x5.2))

noncomputable def iO (s0 : (List aC)) : Option (List aC) :=
  bC (List.length s0 * 16 ≤ 140737488355328 ∧ List.length s0 ≤ 9223372036854775807) <|
  some s0

noncomputable def uQ (f0 : (List aC)) : Option ((List aC) × Int) :=
  (nJ f0).bind fun x1 =>
  cond (!x1)
  (some ([], (7 : Int)))
  (some (f0, (0 : Int)))

noncomputable def uU (t1 : Int) : Option Int :=
  some t1

noncomputable def rH (t1 : Int) (t7 : (List aG)) (t8 : Int) (t9 : Int) : Option ((Int × Int) ⊕ (Int)) :=
  some (.inl (t1, IntKind.i64.wrap (t9 + (1 : Int))))

noncomputable def oX (t7 : (List aG)) (t8 : Int) (t1 : Int) (t9 : Int) : Option ((Int × Int) ⊕ (Int)) :=
  cond (decide (t9 < t8))
  (bC (0 ≤ t9 ∧ t9 < ((List.length t7 : Nat) : Int)) <|
  cond (decide ((0 : Int) < ((List.getD t7 (Int.toNat t9) default).Net)))
  (rH (if (IntKind.i64.wrap (((List.getD t7 (Int.toNat t9) default).At) + (1 : Int))) > t1 then (IntKind.i64.wrap (((List.getD t7 (Int.toNat t9) default).At) + (1 : Int))) else t1) t7 t8 t9)
  (rH t1 t7 t8 t9))
  (some (.inr t1))

noncomputable def uV (t1 : Int) (t7 : (List aG)) (t8 : Int) (t9 : Int) : Option Int :=
  (lp (fun s => oX t7 t8 s.1 s.2) (t1, t9)).bind (fun rr => uU rr)

noncomputable def sK (l0 : (List aG)) (t1 : Int) : Option Int :=
  uV t1 l0 ((List.length l0 : Nat) : Int) (0 : Int)

noncomputable def qW (l0 : (List aG)) : Option ((List aG)) :=
  some l0

noncomputable def lO {σ : Type} (cG : σ → (List aI) → (List aC) → Option (σ × Bool)) (t9c0 : (List aG)) (sg : σ) (t10 : (List aI)) (t11 : (List aC)) : Option ((σ) ⊕ (σ)) :=
  (cG sg t10 t11).bind fun x7 =>
  cond (!x7.2)
  (some (.inr x7.1))
  (some (.inl x7.1))

noncomputable def rJ {σ : Type} (cG : σ → (List aI) → (List aC) → Option (σ × Bool)) (sg : σ) (t9c0 : (List aG)) : Option σ :=
  (nG (fun st t10 t11 => rnd (fun (s : σ) => lO cG t9c0 s t10 t11) st) t9c0 (.inl sg)).bind (Sum.elim (fun (s : σ) =>
  (some s))
  (fun (s : σ) =>
  (some s)))

noncomputable def nP {σ : Type} (cG : σ → (List aI) → (List aC) → Option (σ × Bool)) (t1 : (List aG)) (sg0 : σ) : Option σ :=
  (oK t1).bind fun x1 =>
  cond (!x1)
  (some sg0)
  ((pQ t1).bind fun x5 =>
  rJ cG sg0 x5)

noncomputable def AF (f0 : (List aC)) : Option ((List aC)) :=
  some f0

noncomputable def nX {σ : Type} (cG : σ → bI → Option (σ × Bool)) (sg : σ) (n3 : Int) (kM : Int) : Option σ :=
  cond (decide ((0 : Int) < n3))
  ((cG sg (bI.mk kM (1125899906842624 : Int))).bind fun x2 =>
  some x2.1)
  (some sg)

noncomputable def mN {σ : Type} (cG : σ → bI → Option (σ × Bool)) (sg : σ) (n3 : Int) (kM : Int) (j6 : aC) (t7 : (List aC)) (t8 : Int) (t9 : Int) : Option ((σ × Int × Int × Int) ⊕ ((σ × Int × Int) ⊕ σ)) :=
  (AX (decide ((IntKind.i64.wrap (n3 + j6.Net)) = (0 : Int))) sg (cG sg (bI.mk kM j6.At))).bind fun (x10, x11) =>
  cond ((decide ((IntKind.i64.wrap (n3 + j6.Net)) = (0 : Int))) && (!x11))
  (some (.inr (.inr x10)))
  (some (.inl (x10, IntKind.i64.wrap (n3 + j6.Net), kM, IntKind.i64.wrap (t9 + (1 : Int)))))

noncomputable def gT {σ : Type} (cG : σ → bI → Option (σ × Bool)) (t7 : (List aC)) (t8 : Int) (sg : σ) (n3 : Int) (kM : Int) (t9 : Int) : Option ((σ × Int × Int × Int) ⊕ ((σ × Int × Int) ⊕ σ)) :=
  cond (decide (t9 < t8))
  (bC (0 ≤ t9 ∧ t9 < ((List.length t7 : Nat) : Int)) <|
  cond (decide (n3 = (0 : Int)))
  (mN cG sg n3 ((List.getD t7 (Int.toNat t9) default).At) (List.getD t7 (Int.toNat t9) default) t7 t8 t9)
  (mN cG sg n3 kM (List.getD t7 (Int.toNat t9) default) t7 t8 t9))
  (some (.inr (.inl (sg, n3, kM))))

noncomputable def tJ {σ : Type} (cG : σ → bI → Option (σ × Bool)) (sg : σ) (n3 : Int) (kM : Int) (t7 : (List aC)) (t8 : Int) (t9 : Int) : Option σ :=
  (lp (fun s => gT cG t7 t8 s.1 s.2.1 s.2.2.1 s.2.2.2) (sg, n3, kM, t9)).bind (Sum.elim (fun rr => nX cG rr.1 rr.2.1 rr.2.2) (fun rr => some rr))

noncomputable def rG {σ : Type} (cG : σ → bI → Option (σ × Bool)) (t1 : (List aC)) (sg0 : σ) : Option σ :=
  tJ cG sg0 (0 : Int) (0 : Int) t1 ((List.length t1 : Nat) : Int) (0 : Int)

noncomputable def zD (mK : Int) (hop1 : Int) (s2 : bI) (mF : Int) (jZ : Int) : Option ((Int × bI × Int × Int × Int)) :=
  some (hop1, s2, mK, mF, jZ)

noncomputable def jT {σ : Type} (cG : σ → Int → Option (σ × Bool)) (t1 : Int) (t2 : bI) (t5 : Int) (sg : σ) (t8 : Int) : Option ((σ × Int) ⊕ (σ ⊕ σ)) :=
  cond (decide (t8 < (if (1125899906842624 : Int) < (if t5 < t2.To then t5 else t2.To) then (1125899906842624 : Int) else (if t5 < t2.To then t5 else t2.To))))
  ((cG sg t8).bind fun x8 =>
  cond (!x8.2)
  (some (.inr (.inr x8.1)))
  (some (.inl (x8.1, IntKind.i64.wrap (t8 + t1)))))
  (some (.inr (.inl sg)))

noncomputable def pM {σ : Type} (cG : σ → Int → Option (σ × Bool)) (sg : σ) (t1 : Int) (t2 : bI) (t5 : Int) (t8 : Int) : Option σ :=
  (lp (fun s => jT cG t1 t2 t5 s.1 s.2) (sg, t8)).bind (Sum.elim (fun rr => some rr) (fun rr => some rr))

noncomputable def qG {σ : Type} (cG : σ → Int → Option (σ × Bool)) (t1 : Int) (t2 : bI) (t3 : Int) (t4 : Int) (t5 : Int) (sg0 : σ) : Option σ :=
  (qC t1 (IntKind.i64.wrap (t2.From - t3))).bind fun x1 =>
  (qC t1 (IntKind.i64.wrap (t4 - (1 : Int)))).bind fun x4 =>
  pM cG sg0 t1 t2 t5 (if x4 > x1 then x4 else x1)

noncomputable def wP (v5 : Int) : Option Int :=
  some v5

noncomputable def oD (t1 : Int) (t11 : (List aC)) (t12 : Int) (v5 : Int) (t13 : Int) : Option ((Int × Int) ⊕ (Int)) :=
  cond (decide (t13 < t12))
  (bC (0 ≤ t13 ∧ t13 < ((List.length t11 : Nat) : Int)) <|
  cond (decide (t1 < ((List.getD t11 (Int.toNat t13) default).At)))
  (some (.inr v5))
  (some (.inl (IntKind.i64.wrap (v5 + ((List.getD t11 (Int.toNat t13) default).Net)), IntKind.i64.wrap (t13 + (1 : Int))))))
  (some (.inr v5))

noncomputable def BQ (t1 : Int) (v5 : Int) (t11 : (List aC)) (t12 : Int) (t13 : Int) : Option Int :=
  (lp (fun s => oD t1 t11 t12 s.1 s.2) (v5, t13)).bind (fun rr => wP rr)

noncomputable def yH (f0 : (List aC)) (t1 : Int) : Option Int :=
  (nJ f0).bind fun x1 =>
  cond (!x1)
  (some (0 : Int))
  (BQ t1 (0 : Int) f0 ((List.length f0 : Nat) : Int) (0 : Int))

noncomputable def wJ (n5 : Int) : Option Int :=
  some n5

noncomputable def pY (w3 : bI) (n5 : Int) (t12 : (List aC)) (t13 : Int) (t14 : Int) : Option ((Int × Int) ⊕ (Int)) :=
  some (.inl (n5, IntKind.i64.wrap (t14 + (1 : Int))))

noncomputable def pW (w3 : bI) (t12 : (List aC)) (t13 : Int) (n5 : Int) (t14 : Int) : Option ((Int × Int) ⊕ (Int)) :=
  cond (decide (t14 < t13))
  (bC (0 ≤ t14 ∧ t14 < ((List.length t12 : Nat) : Int)) <|
  cond ((decide (w3.From < ((List.getD t12 (Int.toNat t14) default).At))) && (decide (((List.getD t12 (Int.toNat t14) default).At) < w3.To)))
  (pY w3 (IntKind.i64.wrap (n5 + (if (0 : Int) > ((List.getD t12 (Int.toNat t14) default).Net) then (0 : Int) else ((List.getD t12 (Int.toNat t14) default).Net)))) t12 t13 t14)
  (pY w3 n5 t12 t13 t14))
  (some (.inr n5))

noncomputable def wU (w3 : bI) (n5 : Int) (t12 : (List aC)) (t13 : Int) (t14 : Int) : Option Int :=
  (lp (fun s => pW w3 t12 t13 s.1 s.2) (n5, t14)).bind (fun rr => wJ rr)

noncomputable def uE (f0 : (List aC)) (w1 : bI) : Option Int :=
  (yH f0 w1.From).bind fun x1 =>
  wU w1 x1 f0 ((List.length f0 : Nat) : Int) (0 : Int)

noncomputable def shP (a b : Nat) (p : aN) : List (Nat × Nat × List V) := [(a, 3, [(.agg [(eI p.Span.From), (eI p.Span.To), (.msl 2 b 0 (List.length p.Rows))])]), (b, 2, List.map bT p.Rows)]

noncomputable def shF (a _b : Nat) (p : aN) : List (Nat × Nat × List V) := [(a, 3, [(aR p)])]

noncomputable def pH (r : List aI) (f : List aC) (p : aN) : Option aN :=
  bC ((!(decide ((wR ((lN p.Rows) - (1 : Int))) < (0 : Int)))) = true → 0 ≤ (wR ((lN p.Rows) - (1 : Int))) ∧ (wR ((lN p.Rows) - (1 : Int))) < (lN p.Rows)) <|
  (dL (!(decide ((wR ((lN p.Rows) - (1 : Int))) < (0 : Int)))) (rD ((gD p.Rows (wR ((lN p.Rows) - (1 : Int)))).Row) r)).bind fun x1 =>
  cond ((decide ((wR ((lN p.Rows) - (1 : Int))) < (0 : Int))) || (!x1))
  ((tB r).bind fun x2 =>
  (uE f p.Span).bind fun x3 =>
  bC ((List.length p.Rows + List.length ([bG.mk x2 x3])) * 32 ≤ 140737488355328 ∧ List.length p.Rows + List.length ([bG.mk x2 x3]) ≤ 9223372036854775807) <|
  some (aN.mk p.Span (p.Rows ++ [bG.mk x2 x3])))
  (some p)

noncomputable def nR (r : List aI) (f : List aC) (size : Int) (b : Bool) (m : List (Int × aN)) (t : Int) : Option ((Bool × List (Int × aN)) ⊕ (Bool × List (Int × aN))) :=
  match gH m t with
  | none => cond (decide ((lN m) = (1024 : Int)))
    (some (.inr (false, m)))
    ((pH r f (aN.mk (bI.mk t (if (1125899906842624 : Int) < (wR (t + size)) then (1125899906842624 : Int) else (wR (t + size)))) [])).bind fun p => some (.inl (b, fB m t p)))
  | some p => (pH r f p).bind fun p => some (.inl (b, fB m t p))

noncomputable def pG (r : List aI) (f : List aC) (size hop frm front : Int) (b : Bool) (m : List (Int × aN)) (s : bI) : Option ((Bool × List (Int × aN)) ⊕ (Bool × List (Int × aN))) :=
  (zD size hop s frm front).bind fun x =>
  (qG (fun st t => rnd (fun (q : Bool × List (Int × aN)) => nR r f size q.1 q.2 t) st) x.1 x.2.1 x.2.2.1 x.2.2.2.1 x.2.2.2.2 (.inl (b, m))).bind (Sum.elim (fun q => some (.inl q)) (fun q => some (.inr q)))

noncomputable def vO (m : List (Int × aN)) (r : List aI) (f : List aC) (size hop frm front : Int) : Option (Bool × List (Int × aN)) :=
  (AF f).bind fun x =>
  (rG (fun st s => rnd (fun (q : Bool × List (Int × aN)) => pG r f size hop frm front q.1 q.2 s) st) x (.inl (false, m))).bind (Sum.elim (fun q => some (true, q.2)) (fun q => some (q.1, q.2)))

noncomputable def nH (size hop frm front : Int) (t10 : List aN) (t11 : Int) (m : List (Int × aN)) (r : List aI) (f : List aC) : Option ((List aN × Int × List (Int × aN)) ⊕ (List aN × Int × List (Int × aN))) :=
  (vO m r f size hop frm front).bind fun x =>
  cond (!x.1)
  (some (.inr ([], (7 : Int), x.2)))
  (some (.inl (t10, t11, x.2)))

noncomputable def sD (m : List (Int × aN)) (b : List Int) (n : Int) (out : List aN) (i : Int) : Option ((List aN × Int) ⊕ (List aN)) :=
  cond (decide (i < n))
  (bC (0 ≤ i ∧ i < (lN b)) <|
  match gH m (gD b i) with
  | none => none
  | some p =>
    bC ((List.length out + List.length ([p])) * 40 ≤ 140737488355328 ∧ List.length out + List.length ([p]) ≤ 9223372036854775807) <|
    some (.inl (out ++ [p], wR (i + (1 : Int)))))
  (some (.inr out))

noncomputable def DC (m : List (Int × aN)) (b : List Int) : Option (List aN × Int) :=
  (gQ b).bind fun b =>
  bC (0 ≤ (lN b) ∧ (40 : Int) * (lN b) ≤ 281474976710656 ∧ (lN b) ≤ 9223372036854775807) <|
  (lp (fun s => sD m b (lN b) s.1 s.2) (([] : List aN), (0 : Int))).bind fun out => some (out, (0 : Int))

noncomputable def sN (s : List Int) (k : Int) : Option (List Int) :=
  bC ((List.length s + List.length ([k])) * 8 ≤ 140737488355328 ∧ List.length s + List.length ([k]) ≤ 9223372036854775807) <|
  some (s ++ [k])

noncomputable def vW (m : List (Int × aN)) : Option (List aN × Int) :=
  bC (0 ≤ (lN m) ∧ (8 : Int) * (lN m) ≤ 281474976710656 ∧ (lN m) ≤ 9223372036854775807) <|
  tG (m.map (·.1)) (fun q => (dO sN ([] : List Int) q).bind (DC m))

noncomputable def CH (l : List aG) (size hop frm front : Int) (t10 : List aN) (t11 : Int) : Option (List aN × Int) :=
  (qW l).bind fun x =>
  (nP (fun st r f => rnd (fun (q : List aN × Int × List (Int × aN)) => nH size hop frm front q.1 q.2.1 q.2.2 r f) st) x (.inl (t10, t11, []))).bind (Sum.elim (fun q => vW q.2.2) (fun q => some (q.1, q.2.1)))

noncomputable def xI (l0 : (List aG)) (rK : Int) (hop2 : Int) (mF : Int) (jZ : Int) : Option ((List aN) × Int) :=
  (yO rK hop2).bind fun x3 =>
  (dL (!(!x3)) (oK l0)).bind fun x6 =>
  cond ((!x3) || (!x6))
  (some ([], (2 : Int)))
  ((oP l0).bind fun x10 =>
  cond (!x10)
  (some ([], (20 : Int)))
  ((tI mF).bind fun x14 =>
  (dL (!(!x14)) (tI jZ)).bind fun x17 =>
  cond ((!x14) || (!x17))
  (some ([], (13 : Int)))
  (CH l0 rK hop2 mF jZ ([]) 0)))

noncomputable def fS (s0 : (List aI)) : Option (List aI) :=
  bC (List.length s0 * 32 ≤ 140737488355328 ∧ List.length s0 ≤ 9223372036854775807) <|
  some s0

noncomputable def oB (wL : (List aG)) (t4 : aN) (p5 : aN) (t22 : aG) : Option ((aN × aN) ⊕ (aN × aN)) :=
  cond ((decide (t22.At < p5.Span.From)) || (decide (p5.Span.To ≤ t22.At)))
  (some (.inl (t4, p5)))
  (bC ((((decide ((0 : Int) ≤ (IntKind.i64.wrap (((List.length p5.Rows : Nat) : Int) - (1 : Int)))))) = true → 0 ≤ (IntKind.i64.wrap (((List.length p5.Rows : Nat) : Int) - (1 : Int))) ∧ (IntKind.i64.wrap (((List.length p5.Rows : Nat) : Int) - (1 : Int))) < ((List.length p5.Rows : Nat) : Int))) <|
  (dL (decide ((0 : Int) ≤ (IntKind.i64.wrap (((List.length p5.Rows : Nat) : Int) - (1 : Int))))) (fW ((List.getD p5.Rows (Int.toNat (IntKind.i64.wrap (((List.length p5.Rows : Nat) : Int) - (1 : Int)))) default).Row) t22.Row)).bind fun x13 =>
  cond ((decide ((0 : Int) ≤ (IntKind.i64.wrap (((List.length p5.Rows : Nat) : Int) - (1 : Int))))) && x13)
  (bC (0 ≤ (IntKind.i64.wrap (((List.length p5.Rows : Nat) : Int) - (1 : Int))) ∧ (IntKind.i64.wrap (((List.length p5.Rows : Nat) : Int) - (1 : Int))) < ((List.length p5.Rows : Nat) : Int)) <|
  bC (0 ≤ (IntKind.i64.wrap (((List.length p5.Rows : Nat) : Int) - (1 : Int))) ∧ (IntKind.i64.wrap (((List.length p5.Rows : Nat) : Int) - (1 : Int))) < ((List.length p5.Rows : Nat) : Int)) <|
  some (.inl (t4, aN.mk p5.Span (List.set p5.Rows (Int.toNat (IntKind.i64.wrap (((List.length p5.Rows : Nat) : Int) - (1 : Int)))) (bG.mk (List.getD p5.Rows (Int.toNat (IntKind.i64.wrap (((List.length p5.Rows : Nat) : Int) - (1 : Int)))) default).Row (IntKind.i64.wrap (((List.getD p5.Rows (Int.toNat (IntKind.i64.wrap (((List.length p5.Rows : Nat) : Int) - (1 : Int)))) default).N) + t22.Net)))))))
  ((fS t22.Row).bind fun x19 =>
  bC ((List.length p5.Rows + List.length ([bG.mk x19 t22.Net])) * 32 ≤ 140737488355328 ∧ List.length p5.Rows + List.length ([bG.mk x19 t22.Net]) ≤ 9223372036854775807) <|
  some (.inl (t4, aN.mk p5.Span (p5.Rows ++ ([bG.mk x19 t22.Net]))))))

noncomputable def tP (t4 : aN) (p5 : aN) (wL : (List aG)) : Option aN :=
  (mQ (fun st t22 => rnd (fun (s : aN × aN) => oB wL s.1 s.2 t22) st) wL (.inl (t4, p5))).bind (Sum.elim (fun (s : aN × aN) =>
  (some s.2))
  (fun (s : aN × aN) =>
  (none)))

noncomputable def rM (l0 : (List aG)) (run1 : (List Int)) : Option aN :=
  bC (0 ≤ (0 : Int) ∧ (0 : Int) < ((List.length run1 : Nat) : Int)) <|
  bC (0 ≤ (IntKind.i64.wrap (((List.length run1 : Nat) : Int) - (1 : Int))) ∧ (IntKind.i64.wrap (((List.length run1 : Nat) : Int) - (1 : Int))) < ((List.length run1 : Nat) : Int)) <|
  (pU l0).bind fun x6 =>
  tP (aN.mk (bI.mk 0 0) ([])) (aN.mk (bI.mk (List.getD run1 (Int.toNat (0 : Int)) default) (IntKind.i64.wrap ((List.getD run1 (Int.toNat (IntKind.i64.wrap (((List.length run1 : Nat) : Int) - (1 : Int)))) default) + (1 : Int)))) ([])) x6

noncomputable def vC (kH : List aN) : Option ((List aN) × Int) :=
  some (kH, (0 : Int))

noncomputable def mE (l0 : (List aG)) (n1 : Int) (lQ : (List Int)) (kH : List aN) : Option (((List Int) × List aN) ⊕ ((List aN))) :=
  cond (decide (n1 ≤ ((List.length lQ : Nat) : Int)))
  (bC (0 ≤ n1 ∧ n1 ≤ n1 ∧ n1 ≤ ((List.length lQ : Nat) : Int)) <|
  (rM l0 (List.take (Int.toNat n1) lQ)).bind fun x20 =>
  bC ((List.length kH + List.length ([x20])) * 40 ≤ 140737488355328 ∧ List.length kH + List.length ([x20]) ≤ 9223372036854775807) <|
  bC (0 ≤ (1 : Int) ∧ (1 : Int) ≤ ((List.length lQ : Nat) : Int)) <|
  some (.inl (List.drop (Int.toNat (1 : Int)) lQ, kH ++ ([x20]))))
  (some (.inr kH))

noncomputable def uY (l0 : (List aG)) (n1 : Int) (lQ : (List Int)) (kH : List aN) : Option ((List aN) × Int) :=
  (lp (fun s => mE l0 n1 s.1 s.2) (lQ, kH)).bind (fun rr => vC rr)

noncomputable def sA (l0 : (List aG)) (n1 : Int) (nI : Int) : Option ((List aN) × Int) :=
  (rZ l0 n1).bind fun x1 =>
  cond (!decide (x1 = (0 : Int)))
  (some ([], x1))
  (cond ((decide (nI < (0 : Int))) || (decide ((1125899906842624 : Int) < nI)))
  (some ([], (13 : Int)))
  ((oT l0).bind fun x6 =>
  (fL x6 nI).bind fun x9 =>
  bC (0 ≤ x9.1 ∧ x9.1 ≤ ((List.length x6 : Nat) : Int) ∧ ((List.length x6 : Nat) : Int) ≤ ((List.length x6 : Nat) : Int) ∧ ((List.length x6 : Nat) : Int) ≤ ((List.length x6 : Nat) : Int)) <|
  cond (decide ((1024 : Int) < (IntKind.i64.wrap ((IntKind.i64.wrap (((List.length (List.drop (Int.toNat x9.1) (List.take (Int.toNat ((List.length x6 : Nat) : Int)) x6)) : Nat) : Int) - n1)) + (1 : Int)))))
  (some ([], (7 : Int)))
  (uY l0 n1 (List.drop (Int.toNat x9.1) (List.take (Int.toNat ((List.length x6 : Nat) : Int)) x6)) ([] : List aN))))

noncomputable def yS (out9 : List Int) : Option ((List Int) × Int) :=
  (gQ out9).bind fun x16 =>
  some (x16, (0 : Int))

noncomputable def sR (t50 : (List (Int × Int))) (out9 : List Int) (mk : Int) (mv : Int) : Option (List Int) :=
  bC ((List.length out9 + List.length ([mk])) * 8 ≤ 140737488355328 ∧ List.length out9 + List.length ([mk]) ≤ 9223372036854775807) <|
  some (out9 ++ ([mk]))

noncomputable def zM (t50 : (List (Int × Int))) (out9 : List Int) : Option ((List Int) × Int) :=
  yS out9

noncomputable def zG (out9 : List Int) (t50 : (List (Int × Int))) : Option ((List Int) × Int) :=
  tG t50 (fun q => (dO (fun (s : List Int) (x : Int × Int) => sR t50 s x.1 x.2) out9 q).bind (fun (s : List Int) => zM t50 s))

noncomputable def wE (lG : (List (Int × Int))) : Option ((List Int) × Int) :=
  bC (0 ≤ ((List.length lG : Nat) : Int) ∧ (8 : Int) * ((List.length lG : Nat) : Int) ≤ 281474976710656 ∧ ((List.length lG : Nat) : Int) ≤ 9223372036854775807) <|
  zG ([] : List Int) lG

noncomputable def sS (iP : Int) (lG : (List (Int × Int))) (t32 : (List aG)) (t33 : Int) (t34 : Int) : Option (((List (Int × Int)) × Int) ⊕ ((List (Int × Int)))) :=
  some (.inl (lG, IntKind.i64.wrap (t34 + (1 : Int))))

noncomputable def oO (iP : Int) (t32 : (List aG)) (t33 : Int) (lG : (List (Int × Int))) (t34 : Int) : Option (((List (Int × Int)) × Int) ⊕ ((List (Int × Int)))) :=
  cond (decide (t34 < t33))
  (bC (0 ≤ t34 ∧ t34 < ((List.length t32 : Nat) : Int)) <|
  cond (decide (iP < ((List.getD t32 (Int.toNat t34) default).At)))
  (sS iP (fB lG ((List.getD t32 (Int.toNat t34) default).At) (1 : Int)) t32 t33 t34)
  (sS iP lG t32 t33 t34))
  (some (.inr lG))

noncomputable def zC (iP : Int) (lG : (List (Int × Int))) (t32 : (List aG)) (t33 : Int) (t34 : Int) : Option ((List Int) × Int) :=
  (lp (fun s => oO iP t32 t33 s.1 s.2) (lG, t34)).bind (fun rr => wE rr)

noncomputable def xL (l0 : (List aG)) (iP : Int) : Option ((List Int) × Int) :=
  (oK l0).bind fun x1 =>
  cond (!x1)
  (some ([], (2 : Int)))
  ((oP l0).bind fun x5 =>
  cond (!x5)
  (some ([], (20 : Int)))
  (cond ((decide (iP < (0 : Int))) || (decide ((1125899906842624 : Int) < iP)))
  (some ([], (13 : Int)))
  (cond (decide (iP = (1125899906842624 : Int)))
  (some ([], (0 : Int)))
  (zC iP (fB ([] : (List (Int × Int))) iP (1 : Int)) l0 ((List.length l0 : Nat) : Int) (0 : Int)))))

noncomputable def vE (out4 : List bG) : Option (List bG) :=
  some out4

noncomputable def oS (t0 : Int) (out4 : List bG) (t9 : (List cB)) (t10 : Int) (t11 : Int) : Option ((List bG × Int) ⊕ ((List bG))) :=
  some (.inl (out4, IntKind.i64.wrap (t11 + (1 : Int))))

noncomputable def nB (t0 : Int) (t9 : (List cB)) (t10 : Int) (out4 : List bG) (t11 : Int) : Option ((List bG × Int) ⊕ ((List bG))) :=
  cond (decide (t11 < t10))
  (bC (0 ≤ t11 ∧ t11 < ((List.length t9 : Nat) : Int)) <|
  (yH ((List.getD t9 (Int.toNat t11) default).jumps) t0).bind fun x9 =>
  cond (decide ((0 : Int) < x9))
  ((fS ((List.getD t9 (Int.toNat t11) default).row)).bind fun x16 =>
  bC ((List.length out4 + List.length ([bG.mk x16 x9])) * 32 ≤ 140737488355328 ∧ List.length out4 + List.length ([bG.mk x16 x9]) ≤ 9223372036854775807) <|
  oS t0 (out4 ++ ([bG.mk x16 x9])) t9 t10 t11)
  (oS t0 out4 t9 t10 t11))
  (some (.inr out4))

noncomputable def vA (t0 : Int) (out4 : List bG) (t9 : (List cB)) (t10 : Int) (t11 : Int) : Option (List bG) :=
  (lp (fun s => nB t0 t9 t10 s.1 s.2) (out4, t11)).bind (fun rr => vE rr)

noncomputable def sI (t0 : Int) (t1 : (List cB)) : Option (List bG) :=
  vA t0 ([] : List bG) t1 ((List.length t1 : Nat) : Int) (0 : Int)

noncomputable def nT (eM : (List Int)) (wM : (List aG)) (all8 : List cB) (t29 : (List aI)) (t30 : (List aC)) : Option ((List cB) ⊕ (List cB)) :=
  bC ((List.length all8 + List.length ([cB.mk t29 t30])) * 48 ≤ 140737488355328 ∧ List.length all8 + List.length ([cB.mk t29 t30]) ≤ 9223372036854775807) <|
  some (.inl (all8 ++ ([cB.mk t29 t30])))

noncomputable def xR (eJ : List aN) : Option ((List aN) × Int) :=
  some (eJ, (0 : Int))

noncomputable def uD (eM : (List Int)) (gK : (List cB)) (eJ : List aN) (t39 : (List Int)) (t40 : Int) (t41 : Int) : Option ((List aN × Int) ⊕ ((List aN) ⊕ ((List aN) × Int))) :=
  some (.inl (eJ, IntKind.i64.wrap (t41 + (1 : Int))))

noncomputable def uK (eM : (List Int)) (gK : (List cB)) (eJ : List aN) (t14 : Int) (sE : (List bG)) (yZ : Int) (t39 : (List Int)) (t40 : Int) (t41 : Int) : Option ((List aN × Int) ⊕ ((List aN) ⊕ ((List aN) × Int))) :=
  bC ((List.length eJ + List.length ([aN.mk (bI.mk t14 yZ) sE])) * 40 ≤ 140737488355328 ∧ List.length eJ + List.length ([aN.mk (bI.mk t14 yZ) sE]) ≤ 9223372036854775807) <|
  uD eM gK (eJ ++ ([aN.mk (bI.mk t14 yZ) sE])) t39 t40 t41

noncomputable def nQ (eM : (List Int)) (gK : (List cB)) (t39 : (List Int)) (t40 : Int) (eJ : List aN) (t41 : Int) : Option ((List aN × Int) ⊕ ((List aN) ⊕ ((List aN) × Int))) :=
  cond (decide (t41 < t40))
  (bC (0 ≤ t41 ∧ t41 < ((List.length t39 : Nat) : Int)) <|
  (sI (List.getD t39 (Int.toNat t41) default) gK).bind fun x20 =>
  cond (decide (((List.length x20 : Nat) : Int) = (0 : Int)))
  (uD eM gK eJ t39 t40 t41)
  (cond (decide (((List.length eJ : Nat) : Int) = (1024 : Int)))
  (some (.inr (.inr ([], (7 : Int)))))
  (cond (decide ((IntKind.i64.wrap (t41 + (1 : Int))) < ((List.length eM : Nat) : Int)))
  (bC (0 ≤ (IntKind.i64.wrap (t41 + (1 : Int))) ∧ (IntKind.i64.wrap (t41 + (1 : Int))) < ((List.length eM : Nat) : Int)) <|
  uK eM gK eJ (List.getD t39 (Int.toNat t41) default) x20 (List.getD eM (Int.toNat (IntKind.i64.wrap (t41 + (1 : Int)))) default) t39 t40 t41)
  (uK eM gK eJ (List.getD t39 (Int.toNat t41) default) x20 (1125899906842624 : Int) t39 t40 t41))))
  (some (.inr (.inl eJ)))

noncomputable def uI (eM : (List Int)) (gK : (List cB)) (eJ : List aN) (t39 : (List Int)) (t40 : Int) (t41 : Int) : Option ((List aN) × Int) :=
  (lp (fun s => nQ eM gK t39 t40 s.1 s.2) (eJ, t41)).bind (Sum.elim (fun rr => xR rr) (fun rr => some (rr.1, rr.2)))

noncomputable def xS (eM : (List Int)) (all8 : List cB) (wM : (List aG)) : Option ((List aN) × Int) :=
  (nP (fun st t29 t30 => rnd (fun (s : List cB) => nT eM wM s t29 t30) st) wM (.inl all8)).bind (Sum.elim (fun (s : List cB) =>
  (uI eM s ([] : List aN) eM ((List.length eM : Nat) : Int) (0 : Int)))
  (fun (s : List cB) =>
  (none)))

noncomputable def wD (l0 : (List aG)) (iP : Int) : Option ((List aN) × Int) :=
  (xL l0 iP).bind fun x1 =>
  cond (!decide (x1.2 = (0 : Int)))
  (some ([], x1.2))
  ((qW l0).bind fun x7 =>
  xS x1.1 ([] : List cB) x7)

noncomputable def sJ (w0 : bY) (l1 : (List aG)) (nI : Int) (t3 : Int) : Option ((List aN) × Int) :=
  (pT w0 l1 t3).bind fun x1 =>
  cond (!decide (x1 = (0 : Int)))
  (some ([], x1))
  (cond (decide (w0.Kind = (2 : Int)))
  ((sK l1 t3).bind fun x6 =>
  (xI l1 w0.Size w0.Hop nI x6).bind fun x9 =>
  some (x9.1, x9.2))
  (cond (decide (w0.Kind = (3 : Int)))
  ((sA l1 w0.Size nI).bind fun x13 =>
  some (x13.1, x13.2))
  ((wD l1 nI).bind fun x16 =>
  some (x16.1, x16.2))))

noncomputable def sL  : Option Bool :=
  (nZ (bY.mk (2 : Int) (10 : Int) (5 : Int)) ([aG.mk ([aI.mk (1 : Int) (1 : Int) ByteArray.empty]) (3 : Int) (1 : Int), aG.mk ([aI.mk (1 : Int) (1 : Int) ByteArray.empty]) (7 : Int) (-1 : Int)]) (12 : Int)).bind fun x2 =>
  (sJ (bY.mk (2 : Int) (10 : Int) (5 : Int)) ([aG.mk ([aI.mk (1 : Int) (1 : Int) ByteArray.empty]) (3 : Int) (1 : Int), aG.mk ([aI.mk (1 : Int) (1 : Int) ByteArray.empty]) (7 : Int) (-1 : Int)]) (0 : Int) (2 : Int)).bind fun x5 =>
  bC (((((((decide (x2.1 = (5 : Int))) && (decide (x2.2 = (0 : Int)))) && (decide (x5.2 = (0 : Int)))) && (decide (((List.length x5.1 : Nat) : Int) = (1 : Int))))) = true → 0 ≤ (0 : Int) ∧ (0 : Int) < ((List.length x5.1 : Nat) : Int))) <|
  (dL (((((decide (x2.1 = (5 : Int))) && (decide (x2.2 = (0 : Int)))) && (decide (x5.2 = (0 : Int)))) && (decide (((List.length x5.1 : Nat) : Int) = (1 : Int)))) && ((decide ((((List.getD x5.1 (Int.toNat (0 : Int)) default).Span).From) = ((bI.mk 0 (10 : Int)).From))) && ((decide ((((List.getD x5.1 (Int.toNat (0 : Int)) default).Span).To) = ((bI.mk 0 (10 : Int)).To))) && true))) (pS (bY.mk 0 0 0))).bind fun x9 =>
  some ((((((decide (x2.1 = (5 : Int))) && (decide (x2.2 = (0 : Int)))) && (decide (x5.2 = (0 : Int)))) && (decide (((List.length x5.1 : Nat) : Int) = (1 : Int)))) && ((decide ((((List.getD x5.1 (Int.toNat (0 : Int)) default).Span).From) = ((bI.mk 0 (10 : Int)).From))) && ((decide ((((List.getD x5.1 (Int.toNat (0 : Int)) default).Span).To) = ((bI.mk 0 (10 : Int)).To))) && true))) && (decide (x9 = (2 : Int))))

noncomputable def uF  : Option Bool :=
  some true

noncomputable def rB (a0 : (List aI)) (b1 : (List aI)) (i5 : Int) : Option ((Int) ⊕ (Unit ⊕ Bool)) :=
  cond (decide (i5 < ((List.length a0 : Nat) : Int)))
  (bC (0 ≤ i5 ∧ i5 < ((List.length a0 : Nat) : Int)) <|
  bC (0 ≤ i5 ∧ i5 < ((List.length b1 : Nat) : Int)) <|
  cond (!((decide (((List.getD a0 (Int.toNat i5) default).Kind) = ((List.getD b1 (Int.toNat i5) default).Kind))) && ((decide (((List.getD a0 (Int.toNat i5) default).Num) = ((List.getD b1 (Int.toNat i5) default).Num))) && ((pN ((List.getD a0 (Int.toNat i5) default).Text) ((List.getD b1 (Int.toNat i5) default).Text)) && true))))
  (some (.inr (.inr false)))
  (some (.inl (IntKind.i64.wrap (i5 + (1 : Int))))))
  (some (.inr (.inl ())))

noncomputable def xP (a0 : (List aI)) (b1 : (List aI)) (i5 : Int) : Option Bool :=
  (lp (fun s => rB a0 b1 s) i5).bind (Sum.elim (fun rr => uF ) (fun rr => some rr))

noncomputable def vM (a0 : (List aI)) (b1 : (List aI)) : Option Bool :=
  cond (!decide (((List.length a0 : Nat) : Int) = ((List.length b1 : Nat) : Int)))
  (some false)
  (xP a0 b1 (0 : Int))

noncomputable def uA (out6 : List aC) : Option ((List aC) × Int) :=
  (uQ out6).bind fun x12 =>
  some (x12.1, x12.2)

noncomputable def rA (t1 : Int) (out6 : List aC) (v7 : Int) : Option ((List aC) × Int) :=
  cond (!decide (v7 = (0 : Int)))
  (bC ((List.length out6 + List.length ([aC.mk t1 (IntKind.i64.wrap (0 - v7))])) * 16 ≤ 140737488355328 ∧ List.length out6 + List.length ([aC.mk t1 (IntKind.i64.wrap (0 - v7))]) ≤ 9223372036854775807) <|
  uA (out6 ++ ([aC.mk t1 (IntKind.i64.wrap (0 - v7))])))
  (uA out6)

noncomputable def lT (t1 : Int) (t18 : (List aC)) (t19 : Int) (out6 : List aC) (v7 : Int) (t20 : Int) : Option ((List aC × Int × Int) ⊕ ((List aC × Int))) :=
  cond (decide (t20 < t19))
  (bC (0 ≤ t20 ∧ t20 < ((List.length t18 : Nat) : Int)) <|
  cond (decide (t1 ≤ ((List.getD t18 (Int.toNat t20) default).At)))
  (some (.inr (out6, v7)))
  (bC ((List.length out6 + List.length ([List.getD t18 (Int.toNat t20) default])) * 16 ≤ 140737488355328 ∧ List.length out6 + List.length ([List.getD t18 (Int.toNat t20) default]) ≤ 9223372036854775807) <|
  some (.inl (out6 ++ ([List.getD t18 (Int.toNat t20) default]), IntKind.i64.wrap (v7 + ((List.getD t18 (Int.toNat t20) default).Net)), IntKind.i64.wrap (t20 + (1 : Int))))))
  (some (.inr (out6, v7)))

noncomputable def xW (t1 : Int) (out6 : List aC) (v7 : Int) (t18 : (List aC)) (t19 : Int) (t20 : Int) : Option ((List aC) × Int) :=
  (lp (fun s => lT t1 t18 t19 s.1 s.2.1 s.2.2) (out6, v7, t20)).bind (fun rr => rA t1 rr.1 rr.2)

noncomputable def vH (f0 : (List aC)) (t1 : Int) : Option ((List aC) × Int) :=
  (nJ f0).bind fun x1 =>
  cond (!x1)
  (some ([], (2 : Int)))
  (cond (decide ((1125899906842624 : Int) ≤ t1))
  ((iO f0).bind fun x6 =>
  some (x6, (0 : Int)))
  (xW t1 ([] : List aC) (0 : Int) f0 ((List.length f0 : Nat) : Int) (0 : Int)))

noncomputable def qA (f0 : (List aC)) (t1 : Int) : Option ((List aC) × Int) :=
  (vH f0 t1).bind fun x1 =>
  some (x1.1, x1.2)

noncomputable def sC (l0 : (List aG)) (t1 : Int) : Option ((List aG) × Int) :=
  (zN l0 (fun y0 => qA y0 t1)).bind fun x1 =>
  some (x1.1, x1.2)

noncomputable def tZ  : Option Bool :=
  some true

noncomputable def qY (a0 : (List aG)) (b1 : (List aG)) (i5 : Int) : Option ((Int) ⊕ (Unit ⊕ Bool)) :=
  cond (decide (i5 < ((List.length a0 : Nat) : Int)))
  (bC (0 ≤ i5 ∧ i5 < ((List.length a0 : Nat) : Int)) <|
  bC (0 ≤ i5 ∧ i5 < ((List.length b1 : Nat) : Int)) <|
  bC ((((!(!decide (((List.getD a0 (Int.toNat i5) default).At) = ((List.getD b1 (Int.toNat i5) default).At))))) = true → 0 ≤ i5 ∧ i5 < ((List.length a0 : Nat) : Int))) <|
  bC ((((!(!decide (((List.getD a0 (Int.toNat i5) default).At) = ((List.getD b1 (Int.toNat i5) default).At))))) = true → 0 ≤ i5 ∧ i5 < ((List.length b1 : Nat) : Int))) <|
  bC ((((!((!decide (((List.getD a0 (Int.toNat i5) default).At) = ((List.getD b1 (Int.toNat i5) default).At))) || (!decide (((List.getD a0 (Int.toNat i5) default).Net) = ((List.getD b1 (Int.toNat i5) default).Net)))))) = true → 0 ≤ i5 ∧ i5 < ((List.length a0 : Nat) : Int))) <|
  bC ((((!((!decide (((List.getD a0 (Int.toNat i5) default).At) = ((List.getD b1 (Int.toNat i5) default).At))) || (!decide (((List.getD a0 (Int.toNat i5) default).Net) = ((List.getD b1 (Int.toNat i5) default).Net)))))) = true → 0 ≤ i5 ∧ i5 < ((List.length b1 : Nat) : Int))) <|
  (dL (!((!decide (((List.getD a0 (Int.toNat i5) default).At) = ((List.getD b1 (Int.toNat i5) default).At))) || (!decide (((List.getD a0 (Int.toNat i5) default).Net) = ((List.getD b1 (Int.toNat i5) default).Net))))) (vM ((List.getD a0 (Int.toNat i5) default).Row) ((List.getD b1 (Int.toNat i5) default).Row))).bind fun x9 =>
  cond (((!decide (((List.getD a0 (Int.toNat i5) default).At) = ((List.getD b1 (Int.toNat i5) default).At))) || (!decide (((List.getD a0 (Int.toNat i5) default).Net) = ((List.getD b1 (Int.toNat i5) default).Net)))) || (!x9))
  (some (.inr (.inr false)))
  (some (.inl (IntKind.i64.wrap (i5 + (1 : Int))))))
  (some (.inr (.inl ())))

noncomputable def xT (a0 : (List aG)) (b1 : (List aG)) (i5 : Int) : Option Bool :=
  (lp (fun s => qY a0 b1 s) i5).bind (Sum.elim (fun rr => tZ ) (fun rr => some rr))

noncomputable def vP (a0 : (List aG)) (b1 : (List aG)) : Option Bool :=
  cond (!decide (((List.length a0 : Nat) : Int) = ((List.length b1 : Nat) : Int)))
  (some false)
  (xT a0 b1 (0 : Int))

noncomputable def qM (w0 : bY) (l1 : (List aG)) (m2 : (List aG)) (t3 : Int) (u4 : Int) : Option Bool :=
  (sC l1 t3).bind fun x1 =>
  (sC m2 t3).bind fun x4 =>
  (dL (!((!decide (x1.2 = (0 : Int))) || (!decide (x4.2 = (0 : Int))))) (vP x1.1 x4.1)).bind fun x7 =>
  cond (((((!decide (x1.2 = (0 : Int))) || (!decide (x4.2 = (0 : Int)))) || (!x7)) || (decide (u4 < t3))) || (decide ((1125899906842624 : Int) ≤ t3)))
  ((sL ).bind fun x11 =>
  some x11)
  ((nZ w0 l1 t3).bind fun x14 =>
  (nZ w0 m2 u4).bind fun x17 =>
  (sL ).bind fun x20 =>
  some (x20 && (((!decide (x14.2 = (0 : Int))) || (!decide (x17.2 = (0 : Int)))) || (decide (x14.1 ≤ x17.1)))))

end Go.Abs
namespace Go.Abs
open Go Go.RowKit
def xV (x : bY) : Prop := tL x.Kind ∧ tL x.Size ∧ tL x.Hop ∧ True

def DA (x : aI) : Prop := tL x.Kind ∧ tL x.Num ∧ (fun s => s.size ≤ maxLen) x.Text ∧ True

def rP (x : aG) : Prop := (fun l => (∀ a ∈ l, DA a) ∧ l.length * 32 ≤ 140737488351232) x.Row ∧ tL x.At ∧ tL x.Net ∧ True

end Go.Abs
namespace Go.Abs
open Go Go.RowKit Go.Proofs
noncomputable def tt : TT := ⟨aAK Try.prog, US Try.prog⟩

theorem aB : hU Try.prog tt := hU.of Try.prog

theorem CR (n0 : Int) (r : Bool) (h0 : qF n0 = some r) : dF Try.prog 39 [(eI n0)] (aE r) := by
  intro H0
  refine cY Try.func39 ?_
  have hO := aM.start H0
  unfold qF at h0
  refine aX aB 1 [] [] ?_
  refine bV aB 7 [(2, (aE ((decide ((1 : Int) ≤ n0)) && (decide (n0 ≤ (1099511627776 : Int))))))] ?_
  refine bH ?_
  obtain rfl := oI h0
  exact aF (Q_r hO)

theorem EV (w0 : bY) (r : Int) (h0 : pS w0 = some r) : dF Try.prog 18 [(cO w0)] (eI r) := by
  intro H0
  refine cY Try.func18 ?_
  have hO := aM.start H0
  unfold pS at h0
  refine aO ?_
  refine aS aB 2 ?_
  refine fQ 3 (cO w0) (by kernel_rfl) (by kernel_rfl) ?_
  refine aZ ?_
  refine bB [(1, (.rp (cO w0)))] ?_
  refine aX aB 1 [] [(3, (.fn (.func 39) [] []))] ?_
  refine aX aB 1 [] [(4, (aE false))] ?_
  refine eV (fun T H => ∃ ok4 : Bool, Has T [(4, (aE ok4))] ∧ aM ⟨H0, [], []⟩ H [] ∧ lB ok4 = some r) ?_ ?_
  · clear hO h0
    rintro T H ⟨ok4, hT, hO, h0⟩
    refine bF hT ?_
    clear hT
    unfold lB at h0
    refine aO ?_
    refine bV aB 2 [(45, (aE (!ok4)))] ?_
    refine bJ h0 (fun h0 => ?_) (fun h0 => ?_)
    · refine bV aB 1 [(2, (eI (2 : Int)))] ?_
      refine bH ?_
      obtain rfl := oI h0
      exact aF (aU (Q_r hO))
    refine bM ?_
    refine bB [] ?_
    refine bV aB 1 [(2, (eI (0 : Int)))] ?_
    refine bH ?_
    obtain rfl := oI h0
    exact aF (Q_r hO)
  refine aX aB 2 [] [(6, (eI w0.Kind))] ?_
  refine bW 0 ?_
  refine aX aB 2 [] [(7, (aE (decide (w0.Kind = (1 : Int)))))] ?_
  refine bJ h0 (fun h0 => ?_) (fun h0 => ?_)
  · refine aS aB 9 ?_
    refine aZ ?_
    exact aF (aV (aH (⟨rfl, _, .eq (by kernel_rfl), hO, h0⟩)))
  refine bV aB 2 [(1, (.rp (cO w0))), (3, (.fn (.func 39) [] [])), (4, (aE false)), (6, (eI w0.Kind)), (17, (aE (decide (w0.Kind = (2 : Int)))))] ?_
  refine bJ h0 (fun h0 => ?_) (fun h0 => ?_)
  · refine aS aB 11 ?_
    refine bE 3 ?_
    obtain ⟨x4, hx5, h0⟩ := aW h0
    refine cW (CR w0.Size _ hx5) hO ?_
    intro H hO
    refine bE 8 ?_
    obtain ⟨x7, hx8, h0⟩ := aW h0
    refine mO [(23, true)] 39 [(eI w0.Hop)] (aE x7) x4 (by kernel_rfl) (by kernel_rfl) (by kernel_rfl) (fun hb9 => (CR w0.Hop _ (jP hx8 hb9))) hO ?_
    intro H hO
    refine aZ ?_
    exact aF (aV (aH (⟨rfl, _, .eq (by kernel_rfl), hO, h0⟩)))
  refine aX aB 2 [3, 6, 17] [(29, (aE (decide (w0.Kind = (3 : Int)))))] ?_
  refine bJ h0 (fun h0 => ?_) (fun h0 => ?_)
  · refine aS aB 14 ?_
    refine aZ ?_
    exact aF (aV (aH (⟨rfl, _, .eq (by kernel_rfl), hO, h0⟩)))
  refine bM ?_
  exact aF (aV (aH (⟨rfl, _, .eq (by kernel_rfl), hO, h0⟩)))

theorem EJ (l0 : (List aG)) (r : (List aG)) (h0 : pQ l0 = some r) : dF Try.prog 56 [(eL aD l0)] (.fn (.func 72) [] [(.rp (eL aD r))]) := by
  intro H0
  refine cY Try.func56 ?_
  have hO := aM.start H0
  unfold pQ at h0
  refine aO ?_
  refine aS aB 2 ?_
  refine fQ 1 (eL aD l0) (by kernel_rfl) (by kernel_rfl) ?_
  refine aZ ?_
  refine bB [(1, (.rp (eL aD l0)))] ?_
  refine bV aB 2 [(2, (.fn (.func 72) [] [(.rp (eL aD l0))]))] ?_
  refine bH ?_
  obtain rfl := oI h0
  exact aF (jV (x := (.fn (.func 72) [] [(.rp (eL aD l0))])) (by kernel_rfl) (aQ.refl _) ⟨rfl, hO.out⟩)

theorem qE (s10 : (List aI)) (s21 : (List aI)) (r : Bool) (h0 : fW s10 s21 = some r) : dF Try.prog 67 [(eL aJ s10), (eL aJ s21)] (aE r) := by
  intro H0
  refine cY Try.func67 ?_
  have hO := aM.start H0
  unfold fW at h0
  refine aX aB 1 [] [] ?_
  refine aO ?_
  refine aX aB 5 [] [(10, (aE (!decide ((lN s10) = (lN s21)))))] ?_
  refine bJ h0 (fun h0 => ?_) (fun h0 => ?_)
  · refine bV aB 1 [(4, (aE false))] ?_
    refine bH ?_
    obtain rfl := oI h0
    exact aF (aU (Q_r hO))
  refine bM ?_
  refine bB [(0, (eL aJ s10)), (1, (eL aJ s21))] ?_
  refine eV (fun T H => Has T [] ∧ aM ⟨H0, [], []⟩ H [] ∧ iG  = some r) ?_ ?_
  · clear hO h0
    rintro T H ⟨hT, hO, h0⟩
    refine bF hT ?_
    clear hT
    unfold iG at h0
    refine bV aB 1 [(4, (aE true))] ?_
    refine bH ?_
    obtain rfl := oI h0
    exact aF (Q_r hO)
  refine aX aB 3 [] [(12, (eI (lN s10))), (13, (eI (0 : Int)))] ?_
  refine bW 0 ?_
  refine eE [(0, (eL aJ s10)), (1, (eL aJ s21)), (12, (eI (lN s10))), (13, (eI (0 : Int)))] ?_
  refine eH (fun T H => ∃ t12 : Int, ∃ t13 : Int, Has T [(0, (eL aJ s10)), (1, (eL aJ s21)), (12, (eI t12)), (13, (eI t13))] ∧ aM ⟨H0, [], []⟩ H [] ∧ kD s10 s21 t12 t13 = some r) ?_ ⟨(lN s10), (0 : Int), .eq (by kernel_rfl), hO, h0⟩
  clear hO h0
  rintro T H ⟨t12, t13, hT, hO, h0⟩
  refine bF hT ?_
  clear hT
  unfold kD at h0
  obtain ⟨rr0, hl0, h0⟩ := aW h0
  refine dM (by kernel_rfl) (fun (s : Int) T H => Has T [(0, (eL aJ s10)), (1, (eL aJ s21)), (12, (eI t12)), (13, (eI s))] ∧ aM ⟨H0, [], []⟩ H []) hl0 ⟨.eq (by kernel_rfl), hO⟩ ?_
  clear hO
  rintro k0 s out1 T H ⟨hT, hO⟩ h1 ho0
  obtain ⟨t13, rfl⟩ : ∃ x, x = s := ⟨_, rfl⟩
  replace h1 : fM s10 s21 t12 t13 = some out1 := h1
  refine bF hT ?_
  clear hT
  unfold fM at h1
  refine aX aB 1 [] [(14, (aE (decide (t13 < t12))))] ?_
  refine aO ?_
  refine bJ h1 (fun h1 => ?_) (fun h1 => ?_)
  · refine bM ?_
    refine bB [(0, (eL aJ s10)), (1, (eL aJ s21)), (12, (eI t12)), (13, (eI t13))] ?_
    refine aO ?_
    refine bW 1 ?_
    refine aX aB 2 [] [(5, (eI t13))] ?_
    refine aO ?_
    refine fX (fZ [19, 23]) aB 9 ?_
    obtain ⟨c3, h1⟩ := bA h1
    obtain ⟨c4, h1⟩ := bA h1
    refine OG (Ds := [0 ≤ t13 ∧ t13 < (lN s10), 0 ≤ t13 ∧ t13 < (lN s21)]) (by kernel_rfl) ⟨c3, c4, trivial⟩ ?_
    refine bO [5] [(24, (aE (!((decide (((gD s10 t13).Kind) = ((gD s21 t13).Kind))) && ((decide (((gD s10 t13).Num) = ((gD s21 t13).Num))) && ((pN ((gD s10 t13).Text) ((gD s21 t13).Text)) && true))))))] ?_
    refine bJ h1 (fun h1 => ?_) (fun h1 => ?_)
    · refine bV aB 1 [(4, (aE false))] ?_
      refine bH ?_
      obtain rfl := oI h1
      obtain rfl : _ = rr0 := ho0
      replace h0 : some false = some r := h0
      obtain rfl := oI h0
      exact aF (bD (aU (aU (bD (aU (Q_r hO))))))
    refine bM ?_
    refine dQ [(0, (eL aJ s10)), (1, (eL aJ s21)), (12, (eI t12)), (13, (eI t13))] ?_
    refine aF (aV (aH (?_)))
    refine aS aB 2 ?_
    refine aZ ?_
    exact aF (aH (⟨rfl, _, (oI h1).symm, .eq (by kernel_rfl), hO⟩))
  refine gG 0 ?_
  obtain rfl := oI h1
  obtain rfl : _ = rr0 := ho0
  replace h0 : iG  = some r := h0
  exact aF (aY (aY (bU (aH (⟨rfl, .eq (by kernel_rfl), hO, h0⟩)))))

theorem NN (a0 : (List aI)) (b1 : (List aI)) (r : Bool) (h0 : rD a0 b1 = some r) : dF Try.prog 62 [(eL aJ a0), (eL aJ b1)] (aE r) := by
  intro H0
  refine cY Try.func62 ?_
  have hO := aM.start H0
  unfold rD at h0
  refine aX aB 1 [] [] ?_
  refine aO ?_
  refine aS aB 4 ?_
  refine bE 2 ?_
  obtain ⟨x1, hx2, h0⟩ := aW h0
  refine cW (qE a0 b1 _ hx2) hO ?_
  intro H hO
  refine aZ ?_
  refine bB [(4, (aE x1))] ?_
  refine bH ?_
  obtain rfl := oI h0
  exact aF (Q_r hO)

theorem GY (r0 : (List aI)) (r : (List aI)) (h0 : tB r0 = some r) : dF Try.prog 63 [(eL aJ r0)] (eL aJ r) := by
  intro H0
  refine cY Try.func63 ?_
  have hO := aM.start H0
  unfold tB at h0
  refine aX aB 1 [] [] ?_
  refine aO ?_
  refine aS aB 6 ?_
  refine bE 2 ?_
  obtain ⟨c1, h0⟩ := bA h0
  refine JQ 3 32 (lN r0) (by kernel_rfl) (by kernel_rfl) c1 hO ?_
  intro lo2 H hO
  refine bE 4 ?_
  obtain ⟨c4, h0⟩ := bA h0
  refine sV (e := aJ) ([] : List aI) r0 0 lo2 3 32 (eL aJ r0) (fun lo3 => [(lo3, 3, List.map aJ (([] : List aI) ++ r0))]) (by kernel_rfl) (by kernel_rfl) hO (by kernel_rfl) (PM (fun _ => by kernel_rfl)) c4 (fun _ => by kernel_rfl) ?_
  intro lo3 H hO
  refine aZ ?_
  refine bB [(2, (.msl 3 lo3 0 (List.length (([] : List aI) ++ r0))))] ?_
  refine bH ?_
  refine dQ [(2, (.msl 3 lo3 0 (List.length (([] : List aI) ++ r0))))] ?_
  refine sX (en := aJ) (([] : List aI) ++ r0) 0 0 2 3 lo3 (List.length (([] : List aI) ++ r0)) hO (by kernel_rfl) (by kernel_rfl) (by kernel_rfl) (L' := []) (by kernel_rfl) ?_
  intro H5 hO
  obtain rfl := oI h0
  exact aF (Q_r hO)

theorem zB {σ : Type} (I : σ → Gs → Prop) (yield0_b : Nat) (cG : σ → (List aI) → (List aC) → Option (σ × Bool)) (yield0_h : ∀ st a0 a1 st2 r, cG st a0 a1 = some (st2, r) → AO Try.prog (yv yield0_b) I st [(eL aJ a0), (eL aK a1)] st2 (aE r)) (t1 : (List aG)) (sg0 : σ) (r : σ) (h0 : nG cG t1 sg0 = some r) : wS Try.prog 72 I sg0 [(yv yield0_b), (.rp (eL aD t1))] r (.tup []) := by
  intro H0 G0 hI hg
  refine cY Try.func72 ?_
  obtain ⟨G, hO, hI⟩ : ∃ G, aM ⟨H0, List.map (fun p : Nat × dK => p.1) G0, G⟩ H0 [] ∧ I sg0 G := ⟨G0, aM.CQ hg, hI⟩
  clear hg
  unfold nG at h0
  refine aX aB 1 [] [(3, (eI (0 : Int)))] ?_
  refine bW 0 ?_
  refine eE [(0, (yv yield0_b)), (1, (.rp (eL aD t1))), (3, (eI (0 : Int)))] ?_
  refine eH (fun T H => ∃ sg : σ, ∃ i3 : Int, ∃ G : Gs, Has T [(0, (yv yield0_b)), (1, (.rp (eL aD t1))), (3, (eI i3))] ∧ aM ⟨H0, List.map (fun p : Nat × dK => p.1) G0, G⟩ H [] ∧ I sg G ∧ tO cG sg t1 i3 = some r) ?_ ⟨sg0, (0 : Int), G, .eq (by kernel_rfl), hO, hI, h0⟩
  clear hO hI h0
  rintro T H ⟨sg, i3, G, hT, hO, hI, h0⟩
  refine bF hT ?_
  clear hT
  unfold tO at h0
  obtain ⟨rr0, hl0, h0⟩ := aW h0
  refine dM (by kernel_rfl) (fun (s : σ × Int) T H => ∃ G : Gs, Has T [(0, (yv yield0_b)), (1, (.rp (eL aD t1))), (3, (eI s.2))] ∧ aM ⟨H0, List.map (fun p : Nat × dK => p.1) G0, G⟩ H [] ∧ I s.1 G) hl0 ⟨G, .eq (by kernel_rfl), hO, hI⟩ ?_
  clear hO hI
  rintro k0 s out1 T H ⟨G, hT, hO, hI⟩ h1 ho0
  obtain ⟨sg, i3⟩ := s
  replace h1 : jG cG t1 sg i3 = some out1 := h1
  try dsimp only at hT
  refine bF hT ?_
  clear hT
  unfold jG at h1
  refine aO ?_
  refine aX aB 4 [] [(9, (aE (decide (i3 < (lN t1)))))] ?_
  refine bJ h1 (fun h1 => ?_) (fun h1 => ?_)
  · refine bM ?_
    refine bB [(0, (yv yield0_b)), (1, (.rp (eL aD t1))), (3, (eI i3))] ?_
    refine bW 1 ?_
    refine aO ?_
    refine aS aB 6 ?_
    obtain ⟨c2, h1⟩ := bA h1
    refine qK [0 ≤ i3 ∧ i3 < (lN t1)] ⟨c2, trivial⟩ ?_
    refine bO [] [(4, (eL aJ ((gD t1 i3).Row)))] ?_
    refine aO ?_
    refine aS aB 2 ?_
    refine nK (xs := []) (k := 2) (by kernel_rfl) (by kernel_rfl) ?_
    refine aZ ?_
    refine bO [] [(5, (.sl true 0 (fun _ => .bad)))] ?_
    refine eV (fun T H => ∃ sg : σ, ∃ i3 : Int, ∃ r4 : (List aI), ∃ f5 : List aC, ∃ lo3 : Nat, ∃ G : Gs, Has T [(0, (yv yield0_b)), (1, (.rp (eL aD t1))), (3, (eI i3)), (4, (eL aJ r4)), (5, (.msl 2 lo3 0 (List.length f5)))] ∧ aM ⟨H0, List.map (fun p : Nat × dK => p.1) G0, G⟩ H [(lo3, 2, List.map aK f5)] ∧ I sg G ∧ qI cG sg t1 i3 r4 f5 = some out1) ?_ ?_
    · clear hO hI h1
      rintro T H ⟨sg, i3, r4, f5, lo3, G, hT, hO, hI, h1⟩
      refine bF hT ?_
      clear hT
      unfold qI at h1
      refine aO ?_
      refine aS aB 6 ?_
      refine IW (e := aK) f5 0 5 2 lo3 (List.length f5) [] (by kernel_rfl) hO (by kernel_rfl) (by kernel_rfl) (by kernel_rfl) (by kernel_rfl) ?_
      intro H hO
      refine bE 2 ?_
      obtain ⟨x7, hx8, h1⟩ := aW h1
      refine cW (GY r4 _ hx8) hO ?_
      intro H hO
      refine bE 4 ?_
      obtain ⟨x10, hx11, h1⟩ := aW h1
      refine JW (I := I) (yv yield0_b) [(eL aJ x7), (eL aK f5)] (aE x10.2) (by kernel_rfl) (by kernel_rfl) (yield0_h _ x7 f5 x10.1 x10.2 hx11) hO hI ?_
      intro G H hO hI
      refine aZ ?_
      refine bO [4, 5] [(50, (aE (!x10.2)))] ?_
      refine bJ h1 (fun h1 => ?_) (fun h1 => ?_)
      · refine bH ?_
        obtain rfl := oI h1
        obtain rfl : _ = rr0 := ho0
        replace h0 : some x10.1 = some r := h0
        obtain rfl := oI h0
        exact aF (bD (aU (bD (jV (x := (.tup [])) (by kernel_rfl) (aQ.refl _) ⟨rfl, G, hI, hO.yD⟩))))
      refine bM ?_
      exact aF (aV (aH (⟨rfl, _, (oI h1).symm, _, .eq (by kernel_rfl), hO, hI⟩)))
    refine bW 2 ?_
    refine eE [(0, (yv yield0_b)), (1, (.rp (eL aD t1))), (3, (eI i3)), (4, (eL aJ ((gD t1 i3).Row))), (5, (.sl true 0 (fun _ => .bad)))] ?_
    refine IP (el := (fun _ => .bad)) 4 5 2 hO (by kernel_rfl) ?_
    intro lo24 H25 hO
    refine eH (fun T H => ∃ sg : σ, ∃ i3 : Int, ∃ r4 : (List aI), ∃ f5 : List aC, ∃ lo14 : Nat, ∃ G : Gs, Has T [(0, (yv yield0_b)), (1, (.rp (eL aD t1))), (3, (eI i3)), (4, (eL aJ r4)), (5, (.msl 2 lo14 0 (List.length f5)))] ∧ aM ⟨H0, List.map (fun p : Nat × dK => p.1) G0, G⟩ H [(lo14, 2, List.map aK f5)] ∧ I sg G ∧ tN cG sg t1 i3 r4 f5 = some out1) ?_ ⟨sg, i3, (gD t1 i3).Row, ([] : List aC), lo24, G, .eq (by kernel_rfl), hO, hI, h1⟩
    clear hO hI h1
    rintro T H ⟨sg, i3, r4, f5, lo14, G, hT, hO, hI, h1⟩
    refine bF hT ?_
    clear hT
    unfold tN at h1
    obtain ⟨rr1, hl1, h1⟩ := aW h1
    refine dM (by kernel_rfl) (fun (s : σ × Int × List aC) T H => ∃ lo14 : Nat, ∃ G : Gs, Has T [(0, (yv yield0_b)), (1, (.rp (eL aD t1))), (3, (eI s.2.1)), (4, (eL aJ r4)), (5, (.msl 2 lo14 0 (List.length s.2.2)))] ∧ aM ⟨H0, List.map (fun p : Nat × dK => p.1) G0, G⟩ H [(lo14, 2, List.map aK s.2.2)] ∧ I s.1 G) hl1 ⟨lo14, G, .eq (by kernel_rfl), hO, hI⟩ ?_
    clear hO hI
    rintro k1 s out2 T H ⟨lo14, G, hT, hO, hI⟩ h2 ho1
    obtain ⟨sg, i3, f5⟩ := s
    replace h2 : kI cG t1 r4 sg i3 f5 = some out2 := h2
    try dsimp only at hT
    refine bF hT ?_
    clear hT
    unfold kI at h2
    refine aO ?_
    refine aO ?_
    refine aS aB 13 ?_
    obtain ⟨c15, h2⟩ := bA h2
    refine rO 11 [(((decide (i3 < (lN t1)))) = true → 0 ≤ i3 ∧ i3 < (lN t1))] ⟨c15, trivial⟩ ?_
    obtain ⟨x16, hx17, h2⟩ := aW h2
    refine mO [(20, true)] 62 [(eL aJ ((gD t1 i3).Row)), (eL aJ r4)] (aE x16) (decide (i3 < (lN t1))) (by kernel_rfl) (by kernel_rfl) (by kernel_rfl) (fun hb18 => (NN ((gD t1 i3).Row) r4 _ (jP hx17 hb18))) hO ?_
    intro H hO
    refine aZ ?_
    refine bO [] [(28, (aE ((decide (i3 < (lN t1))) && x16)))] ?_
    refine bJ h2 (fun h2 => ?_) (fun h2 => ?_)
    · refine bM ?_
      refine bB [(0, (yv yield0_b)), (1, (.rp (eL aD t1))), (3, (eI i3)), (4, (eL aJ r4)), (5, (.msl 2 lo14 0 (List.length f5)))] ?_
      refine aO ?_
      refine bW 3 ?_
      refine fX (fZ [32, 36, 37, 41, 43]) aB 15 ?_
      obtain ⟨c20, h2⟩ := bA h2
      obtain ⟨c21, h2⟩ := bA h2
      refine cJ 12 [0 ≤ i3 ∧ i3 < (lN t1), 0 ≤ i3 ∧ i3 < (lN t1)] ⟨c20, c21, trivial⟩ ?_
      refine TK (xs := [(aK (aC.mk ((gD t1 i3).At) ((gD t1 i3).Net)))]) (k := 2) (by kernel_rfl) (by kernel_rfl) ?_
      obtain ⟨c23, h2⟩ := bA h2
      refine JT (e := aK) f5 ([aC.mk ((gD t1 i3).At) ((gD t1 i3).Net)]) 0 lo14 2 16 (eW [(aK (aC.mk ((gD t1 i3).At) ((gD t1 i3).Net)))]) (fun lo22 => [(lo22, 2, List.map aK (f5 ++ ([aC.mk ((gD t1 i3).At) ((gD t1 i3).Net)])))]) (by kernel_rfl) (by kernel_rfl) hO (by kernel_rfl) (by kernel_rfl) c23 (fun _ => by kernel_rfl) ?_
      intro lo22 H hO
      refine kJ ?_
      refine dQ [(0, (yv yield0_b)), (1, (.rp (eL aD t1))), (3, (eI i3)), (4, (eL aJ r4)), (5, (.msl 2 lo22 0 (List.length (f5 ++ ([aC.mk ((gD t1 i3).At) ((gD t1 i3).Net)])))))] ?_
      refine aF (aV (aH (?_)))
      refine aS aB 3 ?_
      refine aZ ?_
      exact aF (aH (⟨rfl, _, (oI h2).symm, _, _, .eq (by kernel_rfl), hO, hI⟩))
    refine gG 2 ?_
    obtain rfl := oI h2
    obtain rfl : _ = rr1 := ho1
    replace h1 : qI cG sg t1 i3 r4 f5 = some out1 := h1
    exact aF (aY (aY (bU (aH (⟨rfl, _, _, _, _, _, _, .eq (by kernel_rfl), hO, hI, h1⟩)))))
  refine gG 0 ?_
  obtain rfl := oI h1
  obtain rfl : _ = rr0 := ho0
  replace h0 : some sg = some r := h0
  obtain rfl := oI h0
  exact aF (aY (aY (bU (xY (x := (.tup [])) (by kernel_rfl) (aQ.refl _) ⟨rfl, G, hI, hO.yD⟩))))

theorem vK (s0 : (List aI)) (f1_f : Nat) (f1_a f1_c : List V) (f1 : aI → Option Bool) (f1_h : ∀ a0 r, f1 a0 = some r → dF Try.prog f1_f (f1_a ++ [(aJ a0)] ++ f1_c) (aE r)) (r : Int) (h0 : jD s0 f1 = some r) : dF Try.prog 88 [(eL aJ s0), (.fn (.func f1_f) f1_a f1_c)] (eI r) := by
  intro H0
  refine cY Try.func88 ?_
  have hO := aM.start H0
  unfold jD at h0
  refine aX aB 1 [] [] ?_
  refine eV (fun T H => Has T [] ∧ aM ⟨H0, [], []⟩ H [] ∧ gF f1  = some r) ?_ ?_
  · clear hO h0
    rintro T H ⟨hT, hO, h0⟩
    refine bF hT ?_
    clear hT
    unfold gF at h0
    refine bV aB 1 [(4, (eI (-1 : Int)))] ?_
    refine bH ?_
    obtain rfl := oI h0
    exact aF (Q_r hO)
  refine aX aB 3 [] [(7, (eI (lN s0))), (8, (eI (0 : Int)))] ?_
  refine bW 0 ?_
  refine eE [(0, (eL aJ s0)), (1, (.fn (.func f1_f) f1_a f1_c)), (7, (eI (lN s0))), (8, (eI (0 : Int)))] ?_
  refine eH (fun T H => ∃ t7 : Int, ∃ t8 : Int, Has T [(0, (eL aJ s0)), (1, (.fn (.func f1_f) f1_a f1_c)), (7, (eI t7)), (8, (eI t8))] ∧ aM ⟨H0, [], []⟩ H [] ∧ iV f1 s0 t7 t8 = some r) ?_ ⟨(lN s0), (0 : Int), .eq (by kernel_rfl), hO, h0⟩
  clear hO h0
  rintro T H ⟨t7, t8, hT, hO, h0⟩
  refine bF hT ?_
  clear hT
  unfold iV at h0
  obtain ⟨rr0, hl0, h0⟩ := aW h0
  refine dM (by kernel_rfl) (fun (s : Int) T H => Has T [(0, (eL aJ s0)), (1, (.fn (.func f1_f) f1_a f1_c)), (7, (eI t7)), (8, (eI s))] ∧ aM ⟨H0, [], []⟩ H []) hl0 ⟨.eq (by kernel_rfl), hO⟩ ?_
  clear hO
  rintro k0 s out1 T H ⟨hT, hO⟩ h1 ho0
  obtain ⟨t8, rfl⟩ : ∃ x, x = s := ⟨_, rfl⟩
  replace h1 : iW f1 s0 t7 t8 = some out1 := h1
  refine bF hT ?_
  clear hT
  unfold iW at h1
  refine aX aB 1 [] [(9, (aE (decide (t8 < t7))))] ?_
  refine aO ?_
  refine bJ h1 (fun h1 => ?_) (fun h1 => ?_)
  · refine bM ?_
    refine bB [(0, (eL aJ s0)), (1, (.fn (.func f1_f) f1_a f1_c)), (7, (eI t7)), (8, (eI t8))] ?_
    refine aO ?_
    refine bW 1 ?_
    refine aX aB 2 [] [(5, (eI t8))] ?_
    refine aO ?_
    refine aS aB 6 ?_
    obtain ⟨c2, h1⟩ := bA h1
    refine rO 5 [0 ≤ t8 ∧ t8 < (lN s0)] ⟨c2, trivial⟩ ?_
    obtain ⟨x3, hx4, h1⟩ := aW h1
    refine cW (f1_h (gD s0 t8) _ hx4) hO ?_
    intro H hO
    refine cX ?_
    refine bO [] [(16, (aE x3))] ?_
    refine bJ h1 (fun h1 => ?_) (fun h1 => ?_)
    · refine bV aB 2 [(4, (eI t8))] ?_
      refine bH ?_
      obtain rfl := oI h1
      obtain rfl : _ = rr0 := ho0
      replace h0 : some t8 = some r := h0
      obtain rfl := oI h0
      exact aF (bD (aU (aU (bD (aU (Q_r hO))))))
    refine bM ?_
    refine dQ [(0, (eL aJ s0)), (1, (.fn (.func f1_f) f1_a f1_c)), (7, (eI t7)), (8, (eI t8))] ?_
    refine aF (aV (aH (?_)))
    refine aS aB 2 ?_
    refine aZ ?_
    exact aF (aH (⟨rfl, _, (oI h1).symm, .eq (by kernel_rfl), hO⟩))
  refine gG 0 ?_
  obtain rfl := oI h1
  obtain rfl : _ = rr0 := ho0
  replace h0 : gF f1  = some r := h0
  exact aF (aY (aY (bU (aH (⟨rfl, .eq (by kernel_rfl), hO, h0⟩)))))

theorem uC (s0 : (List aI)) (f1_f : Nat) (f1_a f1_c : List V) (f1 : aI → Option Bool) (f1_h : ∀ a0 r, f1 a0 = some r → dF Try.prog f1_f (f1_a ++ [(aJ a0)] ++ f1_c) (aE r)) (r : Bool) (h0 : fJ s0 f1 = some r) : dF Try.prog 85 [(eL aJ s0), (.fn (.func f1_f) f1_a f1_c)] (aE r) := by
  intro H0
  refine cY Try.func85 ?_
  have hO := aM.start H0
  unfold fJ at h0
  refine aX aB 1 [] [] ?_
  refine aO ?_
  refine aS aB 5 ?_
  refine bE 2 ?_
  obtain ⟨x1, hx2, h0⟩ := aW h0
  refine cW (vK s0 f1_f f1_a f1_c f1 f1_h _ hx2) hO ?_
  intro H hO
  refine aZ ?_
  refine bB [(4, (aE (decide ((0 : Int) ≤ x1))))] ?_
  refine bH ?_
  obtain rfl := oI h0
  exact aF (Q_r hO)

theorem zA (v0 : aI) (r : (bN × Bool)) (h0 : mM v0 = some r) : dF Try.prog 98 [(aJ v0)] (.tup [(bK r.1), (aE r.2)]) := by
  intro H0
  refine cY Try.func98 ?_
  have hO := aM.start H0
  unfold mM at h0
  refine aO ?_
  refine aS aB 3 ?_
  refine fQ 3 (aJ v0) (by kernel_rfl) (by kernel_rfl) ?_
  refine aZ ?_
  refine bB [(1, (.rp (aJ v0)))] ?_
  refine aO ?_
  refine bW 0 ?_
  refine aX aB 9 [] [(4, (aE ((decide (v0.Kind = (1 : Int))) && (pN v0.Text (⟨#[]⟩ : ByteArray)))))] ?_
  refine bJ h0 (fun h0 => ?_) (fun h0 => ?_)
  · refine bV aB 5 [(2, (bK (bN.k_number v0.Num))), (3, (aE true))] ?_
    refine bH ?_
    obtain rfl := oI h0
    exact aF (bD (aU (Q_r hO)))
  refine aX aB 15 [4] [(16, (aE (((decide (v0.Kind = (2 : Int))) && (decide (v0.Num = (0 : Int)))) && (decide (((ByteArray.size v0.Text : Nat) : Int) ≤ (64 : Int))))))] ?_
  refine bJ h0 (fun h0 => ?_) (fun h0 => ?_)
  · refine bV aB 5 [(2, (bK (bN.k_words v0.Text))), (3, (aE true))] ?_
    refine bH ?_
    obtain rfl := oI h0
    exact aF (bD (aU (Q_r hO)))
  refine bM ?_
  refine dQ [] ?_
  refine aF (aV (aH (?_)))
  refine bV aB 2 [(2, (bK bN.none_)), (3, (aE false))] ?_
  refine bH ?_
  obtain rfl := oI h0
  exact aF (Q_r hO)

theorem XU (v0 : aI) (r : Bool) (h0 : xN v0 = some r) : dF Try.prog 87 [(aJ v0)] (aE r) := by
  intro H0
  refine cY Try.func87 ?_
  have hO := aM.start H0
  unfold xN at h0
  refine aO ?_
  refine aS aB 2 ?_
  refine fQ 3 (aJ v0) (by kernel_rfl) (by kernel_rfl) ?_
  refine aZ ?_
  refine bB [(1, (.rp (aJ v0)))] ?_
  refine aO ?_
  refine aS aB 7 ?_
  refine bE 1 ?_
  obtain ⟨⟨x1_0, x1_1⟩, hx2, h0⟩ := aW h0
  refine cW (zA v0 _ hx2) hO ?_
  intro H hO
  rcases x1_0 with _ | y4 | y5
  · replace h0 : (some x1_1) = some r := h0
    refine aZ ?_
    refine bB [(4, (aE x1_1))] ?_
    refine bV aB 2 [(2, (aE x1_1))] ?_
    refine bH ?_
    obtain rfl := oI h0
    exact aF (Q_r hO)
  · replace h0 : (some x1_1) = some r := h0
    refine aZ ?_
    refine bB [(4, (aE x1_1))] ?_
    refine bV aB 2 [(2, (aE x1_1))] ?_
    refine bH ?_
    obtain rfl := oI h0
    exact aF (Q_r hO)
  · replace h0 : (some x1_1) = some r := h0
    refine aZ ?_
    refine bB [(4, (aE x1_1))] ?_
    refine bV aB 2 [(2, (aE x1_1))] ?_
    refine bH ?_
    obtain rfl := oI h0
    exact aF (Q_r hO)

theorem XO (v0 : aI) (r : Bool) (h0 : xO v0 = some r) : dF Try.prog 86 [(aJ v0)] (aE r) := by
  intro H0
  refine cY Try.func86 ?_
  have hO := aM.start H0
  unfold xO at h0
  refine aO ?_
  refine aS aB 2 ?_
  refine fQ 3 (aJ v0) (by kernel_rfl) (by kernel_rfl) ?_
  refine aZ ?_
  refine bB [(1, (.rp (aJ v0)))] ?_
  refine aO ?_
  refine aS aB 4 ?_
  refine bE 1 ?_
  obtain ⟨x1, hx2, h0⟩ := aW h0
  refine cW (XU v0 _ hx2) hO ?_
  intro H hO
  refine aZ ?_
  refine bB [(2, (aE (!x1)))] ?_
  refine bH ?_
  obtain rfl := oI h0
  exact aF (Q_r hO)

theorem IS (r0 : (List aI)) (r : Bool) (h0 : wB r0 = some r) : dF Try.prog 68 [(eL aJ r0)] (aE r) := by
  intro H0
  refine cY Try.func68 ?_
  have hO := aM.start H0
  unfold wB at h0
  refine aX aB 1 [] [] ?_
  refine aO ?_
  refine aX aB 3 [] [(5, (aE (decide ((8 : Int) < (lN r0)))))] ?_
  refine bJ h0 (fun h0 => ?_) (fun h0 => ?_)
  · refine bV aB 1 [(2, (aE false))] ?_
    refine bH ?_
    obtain rfl := oI h0
    exact aF (aU (Q_r hO))
  refine bM ?_
  refine bB [(0, (eL aJ r0))] ?_
  refine aO ?_
  refine aS aB 4 ?_
  refine bE 1 ?_
  obtain ⟨x2, hx3, h0⟩ := aW h0
  refine cW (uC r0 86 [] [] (fun y0 => xO y0) (fun y0 r h => XO y0 r h) _ hx3) hO ?_
  intro H hO
  refine aZ ?_
  refine bB [(2, (aE (!x2)))] ?_
  refine bH ?_
  obtain rfl := oI h0
  exact aF (Q_r hO)

theorem MO (t0 : (List aI)) (r : (Int × (List aI))) (h0 : vD t0 = some r) : DV Try.prog 89 [(.rp (eL aJ t0))] (fun lo => (.fn (.func 90) [] [(.lp lo 0 0), (.rp (eL aJ r.2))])) 1 [(eI r.1)] := by
  intro H0
  refine cY Try.func89 ?_
  have hO := aM.start H0
  unfold vD at h0
  refine aX aB 1 [] [] ?_
  refine aO ?_
  refine aS aB 2 ?_
  refine kK 1 (eI 0) (by kernel_rfl) (by kernel_rfl) hO ?_
  intro lo1 H hO
  refine gM 0 lo1 1 0 (eI 0) (eI (-1 : Int)) [(eI 0)] [(lo1, 1, [(eI (-1 : Int))])] hO rfl (by kernel_rfl) ?_
  intro H hO
  refine cX ?_
  refine bO [] [(2, (.lp lo1 0 0))] ?_
  refine aX aB 2 [0] [(1, (.fn (.func 90) [] [(.lp lo1 0 0), (.rp (eL aJ t0))]))] ?_
  refine bH ?_
  obtain rfl := oI h0
  exact aF (jV (x := (.fn (.func 90) [] [(.lp lo1 0 0), (.rp (eL aJ t0))])) (by kernel_rfl) (aQ.refl _) ⟨lo1, rfl, hO⟩)

theorem uS {σ : Type} (I : σ → Gs → Prop) (s0 : (List aI)) (f1_v : V) (f1 : σ → aI → Option (σ × Bool)) (f1_h : ∀ st a0 st2 r, f1 st a0 = some (st2, r) → AO Try.prog f1_v I st [(aJ a0)] st2 (aE r)) (sg0 : σ) (r : (σ × Int)) (h0 : iR s0 f1 sg0 = some r) : wS Try.prog 88 I sg0 [(eL aJ s0), f1_v] r.1 (eI r.2) := by
  intro H0 G0 hI hg
  refine cY Try.func88 ?_
  obtain ⟨G, hO, hI⟩ : ∃ G, aM ⟨H0, List.map (fun p : Nat × dK => p.1) G0, G⟩ H0 [] ∧ I sg0 G := ⟨G0, aM.CQ hg, hI⟩
  clear hg
  unfold iR at h0
  refine aX aB 1 [] [] ?_
  refine eV (fun T H => ∃ sg : σ, ∃ G : Gs, Has T [] ∧ aM ⟨H0, List.map (fun p : Nat × dK => p.1) G0, G⟩ H [] ∧ I sg G ∧ fK f1 sg = some r) ?_ ?_
  · clear hO hI h0
    rintro T H ⟨sg, G, hT, hO, hI, h0⟩
    refine bF hT ?_
    clear hT
    unfold fK at h0
    refine bV aB 1 [(4, (eI (-1 : Int)))] ?_
    refine bH ?_
    obtain rfl := oI h0
    exact aF (jV (x := (eI (-1 : Int))) (by kernel_rfl) (aQ.refl _) ⟨rfl, G, hI, hO.yD⟩)
  refine aX aB 3 [] [(7, (eI (lN s0))), (8, (eI (0 : Int)))] ?_
  refine bW 0 ?_
  refine eE [(0, (eL aJ s0)), (1, f1_v), (7, (eI (lN s0))), (8, (eI (0 : Int)))] ?_
  refine eH (fun T H => ∃ sg : σ, ∃ t7 : Int, ∃ t8 : Int, ∃ G : Gs, Has T [(0, (eL aJ s0)), (1, f1_v), (7, (eI t7)), (8, (eI t8))] ∧ aM ⟨H0, List.map (fun p : Nat × dK => p.1) G0, G⟩ H [] ∧ I sg G ∧ iM f1 sg s0 t7 t8 = some r) ?_ ⟨sg0, (lN s0), (0 : Int), G, .eq (by kernel_rfl), hO, hI, h0⟩
  clear hO hI h0
  rintro T H ⟨sg, t7, t8, G, hT, hO, hI, h0⟩
  refine bF hT ?_
  clear hT
  unfold iM at h0
  obtain ⟨rr0, hl0, h0⟩ := aW h0
  refine dM (by kernel_rfl) (fun (s : σ × Int) T H => ∃ G : Gs, Has T [(0, (eL aJ s0)), (1, f1_v), (7, (eI t7)), (8, (eI s.2))] ∧ aM ⟨H0, List.map (fun p : Nat × dK => p.1) G0, G⟩ H [] ∧ I s.1 G) hl0 ⟨G, .eq (by kernel_rfl), hO, hI⟩ ?_
  clear hO hI
  rintro k0 s out1 T H ⟨G, hT, hO, hI⟩ h1 ho0
  obtain ⟨sg, t8⟩ := s
  replace h1 : cI f1 s0 t7 sg t8 = some out1 := h1
  try dsimp only at hT
  refine bF hT ?_
  clear hT
  unfold cI at h1
  refine aX aB 1 [] [(9, (aE (decide (t8 < t7))))] ?_
  refine aO ?_
  refine bJ h1 (fun h1 => ?_) (fun h1 => ?_)
  · refine bM ?_
    refine bB [(0, (eL aJ s0)), (1, f1_v), (7, (eI t7)), (8, (eI t8))] ?_
    refine aO ?_
    refine bW 1 ?_
    refine aX aB 2 [] [(5, (eI t8))] ?_
    refine aO ?_
    refine aS aB 6 ?_
    obtain ⟨c2, h1⟩ := bA h1
    refine rO 5 [0 ≤ t8 ∧ t8 < (lN s0)] ⟨c2, trivial⟩ ?_
    obtain ⟨x3, hx4, h1⟩ := aW h1
    refine JW (I := I) f1_v [(aJ (gD s0 t8))] (aE x3.2) (by kernel_rfl) (by kernel_rfl) (f1_h _ (gD s0 t8) x3.1 x3.2 hx4) hO hI ?_
    intro G H hO hI
    refine cX ?_
    refine bO [] [(16, (aE x3.2))] ?_
    refine bJ h1 (fun h1 => ?_) (fun h1 => ?_)
    · refine bV aB 2 [(4, (eI t8))] ?_
      refine bH ?_
      obtain rfl := oI h1
      obtain rfl : _ = rr0 := ho0
      replace h0 : some (x3.1, t8) = some r := h0
      obtain rfl := oI h0
      exact aF (bD (aU (aU (bD (aU (jV (x := (eI t8)) (by kernel_rfl) (aQ.refl _) ⟨rfl, G, hI, hO.yD⟩))))))
    refine bM ?_
    refine dQ [(0, (eL aJ s0)), (1, f1_v), (7, (eI t7)), (8, (eI t8))] ?_
    refine aF (aV (aH (?_)))
    refine aS aB 2 ?_
    refine aZ ?_
    exact aF (aH (⟨rfl, _, (oI h1).symm, _, .eq (by kernel_rfl), hO, hI⟩))
  refine gG 0 ?_
  obtain rfl := oI h1
  obtain rfl : _ = rr0 := ho0
  replace h0 : fK f1 sg = some r := h0
  exact aF (aY (aY (bU (aH (⟨rfl, _, _, .eq (by kernel_rfl), hO, hI, h0⟩)))))

theorem KE (v0 : aI) (lo1p : Nat) (t1 : Int) (t2 : (List aI)) (r : (Bool × Int)) (h0 : kR v0 t1 t2 = some r) : qP Try.prog 90 lo1p 1 [(eI t1)] [(eI r.2)] [(aJ v0), (.lp lo1p 0 0), (.rp (eL aJ t2))] (aE r.1) := by
  intro H0 hl0
  refine cY Try.func90 ?_
  have hO := aM.sH hl0
  clear hl0
  unfold kR at h0
  refine aO ?_
  refine aS aB 2 ?_
  refine fQ 3 (aJ v0) (by kernel_rfl) (by kernel_rfl) ?_
  refine aZ ?_
  refine bO [0] [(3, (.rp (aJ v0)))] ?_
  refine aO ?_
  refine aS aB 3 ?_
  refine iS 0 lo1p 1 0 (eI t1) (eI t1) [(eI t1)] hO rfl ?_
  refine bE 2 ?_
  refine gM 0 lo1p 1 0 (eI t1) (eI (wR (t1 + (1 : Int)))) [(eI t1)] [(lo1p, 1, [(eI (wR (t1 + (1 : Int))))])] hO rfl (by kernel_rfl) ?_
  intro H hO
  refine cX ?_
  refine bO [] [] ?_
  refine aO ?_
  refine fX (fZ [7, 8, 11]) aB 7 ?_
  refine kE 2 ?_
  refine fU 0 lo1p 1 0 (eI (wR (t1 + (1 : Int)))) (eI (wR (t1 + (1 : Int)))) [(eI (wR (t1 + (1 : Int))))] hO rfl ?_
  obtain ⟨c1, h0⟩ := bA h0
  refine OG (Ds := [0 ≤ (wR (t1 + (1 : Int))) ∧ (wR (t1 + (1 : Int))) < (lN t2)]) (by kernel_rfl) ⟨c1, trivial⟩ ?_
  refine bB [(1, (.lp lo1p 0 0)), (4, (aE (!((decide (v0.Kind = ((gD t2 (wR (t1 + (1 : Int)))).Kind))) && ((decide (v0.Num = ((gD t2 (wR (t1 + (1 : Int)))).Num))) && ((pN v0.Text ((gD t2 (wR (t1 + (1 : Int)))).Text)) && true))))))] ?_
  refine bH ?_
  obtain rfl := oI h0
  exact aF (jV (x := (aE (!((decide (v0.Kind = ((gD t2 (wR (t1 + (1 : Int)))).Kind))) && ((decide (v0.Num = ((gD t2 (wR (t1 + (1 : Int)))).Num))) && ((pN v0.Text ((gD t2 (wR (t1 + (1 : Int)))).Text)) && true)))))) (by kernel_rfl) (aQ.refl _) ⟨rfl, hO.ext, hO.at 0 (by kernel_rfl), rfl⟩)

theorem vB (x0 : Int) (r : Bool) (h0 : kW x0 = some r) : dF Try.prog 71 [(eI x0)] (aE r) := by
  intro H0
  refine cY Try.func71 ?_
  have hO := aM.start H0
  unfold kW at h0
  refine aX aB 1 [] [] ?_
  refine bV aB 4 [(2, (aE (!decide (x0 = x0))))] ?_
  refine bH ?_
  obtain rfl := oI h0
  exact aF (Q_r hO)

theorem KF (x0 : Int) (y1 : Int) (r : Int) (h0 : pJ x0 y1 = some r) : dF Try.prog 91 [(eI x0), (eI y1)] (eI r) := by
  intro H0
  refine cY Try.func91 ?_
  have hO := aM.start H0
  unfold pJ at h0
  refine aX aB 1 [] [] ?_
  refine aO ?_
  refine aS aB 3 ?_
  refine bE 1 ?_
  obtain ⟨x1, hx2, h0⟩ := aW h0
  refine cW (vB x0 _ hx2) hO ?_
  intro H hO
  refine aZ ?_
  refine bO [] [(5, (aE x1))] ?_
  refine aO ?_
  refine aS aB 3 ?_
  refine bE 1 ?_
  obtain ⟨x4, hx5, h0⟩ := aW h0
  refine cW (vB y1 _ hx5) hO ?_
  intro H hO
  refine aZ ?_
  refine bO [] [(6, (aE x4))] ?_
  refine aO ?_
  refine aX aB 1 [5] [(11, (aE x1))] ?_
  refine bJ h0 (fun h0 => ?_) (fun h0 => ?_)
  · refine aO ?_
    refine bV aB 1 [(12, (aE x4))] ?_
    refine bJ h0 (fun h0 => ?_) (fun h0 => ?_)
    · refine bV aB 1 [(4, (eI (0 : Int)))] ?_
      refine bH ?_
      obtain rfl := oI h0
      exact aF (aU (aU (Q_r hO)))
    refine bM ?_
    refine bB [] ?_
    refine bV aB 1 [(4, (eI (-1 : Int)))] ?_
    refine bH ?_
    obtain rfl := oI h0
    exact aF (aU (Q_r hO))
  refine bM ?_
  refine bB [(0, (eI x0)), (1, (eI y1)), (6, (aE x4))] ?_
  refine aO ?_
  refine aX aB 1 [6] [(13, (aE x4))] ?_
  refine bJ h0 (fun h0 => ?_) (fun h0 => ?_)
  · refine bV aB 1 [(4, (eI (1 : Int)))] ?_
    refine bH ?_
    obtain rfl := oI h0
    exact aF (aU (Q_r hO))
  refine bM ?_
  refine bB [(0, (eI x0)), (1, (eI y1))] ?_
  refine aO ?_
  refine aX aB 3 [] [(16, (aE (decide (x0 < y1))))] ?_
  refine bJ h0 (fun h0 => ?_) (fun h0 => ?_)
  · refine bV aB 1 [(4, (eI (-1 : Int)))] ?_
    refine bH ?_
    obtain rfl := oI h0
    exact aF (aU (Q_r hO))
  refine bM ?_
  refine bB [(0, (eI x0)), (1, (eI y1))] ?_
  refine aO ?_
  refine bV aB 3 [(19, (aE (decide (y1 < x0))))] ?_
  refine bJ h0 (fun h0 => ?_) (fun h0 => ?_)
  · refine bV aB 1 [(4, (eI (1 : Int)))] ?_
    refine bH ?_
    obtain rfl := oI h0
    exact aF (aU (Q_r hO))
  refine bM ?_
  refine bB [] ?_
  refine bV aB 1 [(4, (eI (0 : Int)))] ?_
  refine bH ?_
  obtain rfl := oI h0
  exact aF (Q_r hO)

theorem wG (x0 : Int) (r : Bool) (h0 : lP x0 = some r) : dF Try.prog 102 [(eI x0)] (aE r) := by
  intro H0
  refine cY Try.func102 ?_
  have hO := aM.start H0
  unfold lP at h0
  refine aX aB 1 [] [] ?_
  refine bV aB 4 [(2, (aE (!decide (x0 = x0))))] ?_
  refine bH ?_
  obtain rfl := oI h0
  exact aF (Q_r hO)

theorem BA (x0 : Int) (y1 : Int) (r : Int) (h0 : gU x0 y1 = some r) : dF Try.prog 99 [(eI x0), (eI y1)] (eI r) := by
  intro H0
  refine cY Try.func99 ?_
  have hO := aM.start H0
  unfold gU at h0
  refine aX aB 1 [] [] ?_
  refine aO ?_
  refine aS aB 3 ?_
  refine bE 1 ?_
  obtain ⟨x1, hx2, h0⟩ := aW h0
  refine cW (wG x0 _ hx2) hO ?_
  intro H hO
  refine aZ ?_
  refine bO [] [(5, (aE x1))] ?_
  refine aO ?_
  refine aS aB 3 ?_
  refine bE 1 ?_
  obtain ⟨x4, hx5, h0⟩ := aW h0
  refine cW (wG y1 _ hx5) hO ?_
  intro H hO
  refine aZ ?_
  refine bO [] [(6, (aE x4))] ?_
  refine aO ?_
  refine aX aB 1 [5] [(11, (aE x1))] ?_
  refine bJ h0 (fun h0 => ?_) (fun h0 => ?_)
  · refine aO ?_
    refine bV aB 1 [(12, (aE x4))] ?_
    refine bJ h0 (fun h0 => ?_) (fun h0 => ?_)
    · refine bV aB 1 [(4, (eI (0 : Int)))] ?_
      refine bH ?_
      obtain rfl := oI h0
      exact aF (aU (aU (Q_r hO)))
    refine bM ?_
    refine bB [] ?_
    refine bV aB 1 [(4, (eI (-1 : Int)))] ?_
    refine bH ?_
    obtain rfl := oI h0
    exact aF (aU (Q_r hO))
  refine bM ?_
  refine bB [(0, (eI x0)), (1, (eI y1)), (6, (aE x4))] ?_
  refine aO ?_
  refine aX aB 1 [6] [(13, (aE x4))] ?_
  refine bJ h0 (fun h0 => ?_) (fun h0 => ?_)
  · refine bV aB 1 [(4, (eI (1 : Int)))] ?_
    refine bH ?_
    obtain rfl := oI h0
    exact aF (aU (Q_r hO))
  refine bM ?_
  refine bB [(0, (eI x0)), (1, (eI y1))] ?_
  refine aO ?_
  refine aX aB 3 [] [(16, (aE (decide (x0 < y1))))] ?_
  refine bJ h0 (fun h0 => ?_) (fun h0 => ?_)
  · refine bV aB 1 [(4, (eI (-1 : Int)))] ?_
    refine bH ?_
    obtain rfl := oI h0
    exact aF (aU (Q_r hO))
  refine bM ?_
  refine bB [(0, (eI x0)), (1, (eI y1))] ?_
  refine aO ?_
  refine bV aB 3 [(19, (aE (decide (y1 < x0))))] ?_
  refine bJ h0 (fun h0 => ?_) (fun h0 => ?_)
  · refine bV aB 1 [(4, (eI (1 : Int)))] ?_
    refine bH ?_
    obtain rfl := oI h0
    exact aF (aU (Q_r hO))
  refine bM ?_
  refine bB [] ?_
  refine bV aB 1 [(4, (eI (0 : Int)))] ?_
  refine bH ?_
  obtain rfl := oI h0
  exact aF (Q_r hO)

theorem yB (a0 : ByteArray) (b1 : ByteArray) (r : Int) (h0 : kG a0 b1 = some r) : dF Try.prog 103 [(zS a0), (zS b1)] (eI r) := by
  intro H0
  refine cY Try.func103 ?_
  have hO := aM.start H0
  unfold kG at h0
  refine aX aB 1 [] [] ?_
  refine aO ?_
  refine aS aB 4 ?_
  refine bE 2 ?_
  refine aEl 104 [(zS a0), (zS b1)] (eI (QE a0 b1)) (by kernel_rfl) (by kernel_rfl) (aDv Try.func104 (by kernel_rfl) (by kernel_rfl) (by kernel_rfl) (by kernel_rfl) a0 b1) hO ?_
  intro H hO
  refine aZ ?_
  refine bB [(4, (eI (QE a0 b1)))] ?_
  refine bH ?_
  obtain rfl := oI h0
  exact aF (Q_r hO)

theorem KB (a0 : ByteArray) (b1 : ByteArray) (r : Int) (h0 : nM a0 b1 = some r) : dF Try.prog 100 [(zS a0), (zS b1)] (eI r) := by
  intro H0
  refine cY Try.func100 ?_
  have hO := aM.start H0
  unfold nM at h0
  refine aX aB 1 [] [] ?_
  refine aO ?_
  refine aS aB 4 ?_
  refine bE 2 ?_
  obtain ⟨x1, hx2, h0⟩ := aW h0
  refine cW (yB a0 b1 _ hx2) hO ?_
  intro H hO
  refine aZ ?_
  refine bB [(4, (eI x1))] ?_
  refine bH ?_
  obtain rfl := oI h0
  exact aF (Q_r hO)

theorem NT (a0 : aI) (b1 : aI) (r : Int) (h0 : rI a0 b1 = some r) : dF Try.prog 92 [(aJ a0), (aJ b1)] (eI r) := by
  intro H0
  refine cY Try.func92 ?_
  have hO := aM.start H0
  unfold rI at h0
  refine aO ?_
  refine aS aB 3 ?_
  refine fQ 3 (aJ a0) (by kernel_rfl) (by kernel_rfl) ?_
  refine fQ 3 (aJ b1) (by kernel_rfl) (by kernel_rfl) ?_
  refine aZ ?_
  refine bB [(2, (.rp (aJ a0))), (3, (.rp (aJ b1)))] ?_
  refine aO ?_
  refine aS aB 7 ?_
  refine bE 1 ?_
  obtain ⟨⟨x1_0, x1_1⟩, hx2, h0⟩ := aW h0
  refine cW (zA a0 _ hx2) hO ?_
  intro H hO
  rcases x1_0 with _ | y4 | y5
  · replace h0 : ((mM b1).bind fun (x6_0, x6_1) => match x6_0 with | .none_ => (cond ((!x1_1) || (!x6_1)) (some (0 : Int)) (none)) | .k_number y9 => (cond ((!x1_1) || (!x6_1)) (some (0 : Int)) (some (1 : Int))) | .k_words y10 => (cond ((!x1_1) || (!x6_1)) (some (0 : Int)) (none))) = some r := h0
    refine aZ ?_
    refine bO [2] [(5, (bK bN.none_)), (6, (aE x1_1))] ?_
    refine aO ?_
    refine aS aB 7 ?_
    refine bE 1 ?_
    obtain ⟨⟨x6_0, x6_1⟩, hx7, h0⟩ := aW h0
    refine cW (zA b1 _ hx7) hO ?_
    intro H hO
    rcases x6_0 with _ | y9 | y10
    · replace h0 : (cond ((!x1_1) || (!x6_1)) (some (0 : Int)) (none)) = some r := h0
      refine aZ ?_
      refine bO [3] [(7, (bK bN.none_)), (8, (aE x6_1))] ?_
      refine aO ?_
      refine aX aB 6 [6, 8] [(28, (aE ((!x1_1) || (!x6_1))))] ?_
      refine bJ h0 (fun h0 => ?_) (fun h0 => ?_)
      · refine bV aB 1 [(4, (eI (0 : Int)))] ?_
        refine bH ?_
        obtain rfl := oI h0
        exact aF (aU (Q_r hO))
      refine bM ?_
      refine bB [(5, (bK bN.none_)), (7, (bK bN.none_))] ?_
      refine aX aB 7 [] [(9, (eI 0)), (10, (aE false))] ?_
      refine aX aB 7 [] [(11, (eI 0)), (12, (aE false))] ?_
      refine aO ?_
      refine bW 0 ?_
      refine aX aB 5 [] [(39, (aE false))] ?_
      refine mJ (false) (fun hc12 => ?_) (fun hc12 => ?_)
      · cases hc12
      · refine aX aB 2 [9, 10, 11, 39] [(47, (aE false))] ?_
        refine mJ (false) (fun hc13 => ?_) (fun hc13 => ?_)
        · cases hc13
        · refine bV aB 2 [(5, (bK bN.none_)), (7, (bK bN.none_)), (49, (aE false))] ?_
          refine mJ (false) (fun hc14 => ?_) (fun hc14 => ?_)
          · cases hc14
          · refine bM ?_
            refine dQ [(5, (bK bN.none_)), (7, (bK bN.none_))] ?_
            refine aF (aV (aH (?_)))
            refine aO ?_
            refine fX (fZ []) aB 6 ?_
            cases h0
    · replace h0 : (cond ((!x1_1) || (!x6_1)) (some (0 : Int)) (some (1 : Int))) = some r := h0
      refine aZ ?_
      refine bO [3] [(7, (bK (bN.k_number y9))), (8, (aE x6_1))] ?_
      refine aO ?_
      refine aX aB 6 [6, 8] [(28, (aE ((!x1_1) || (!x6_1))))] ?_
      refine bJ h0 (fun h0 => ?_) (fun h0 => ?_)
      · refine bV aB 1 [(4, (eI (0 : Int)))] ?_
        refine bH ?_
        obtain rfl := oI h0
        exact aF (aU (Q_r hO))
      refine bM ?_
      refine bB [(5, (bK bN.none_)), (7, (bK (bN.k_number y9)))] ?_
      refine aX aB 7 [] [(9, (eI 0)), (10, (aE false))] ?_
      refine aX aB 7 [] [(11, (eI y9)), (12, (aE true))] ?_
      refine aO ?_
      refine bW 0 ?_
      refine aX aB 5 [] [(39, (aE false))] ?_
      refine mJ (false) (fun hc16 => ?_) (fun hc16 => ?_)
      · cases hc16
      · refine aX aB 2 [9, 10, 11, 39] [(47, (aE false))] ?_
        refine mJ (false) (fun hc17 => ?_) (fun hc17 => ?_)
        · cases hc17
        · refine bV aB 2 [(5, (bK bN.none_)), (7, (bK (bN.k_number y9))), (49, (aE true))] ?_
          refine mJ (true) (fun hc18 => ?_) (fun hc18 => ?_)
          · refine bV aB 1 [(4, (eI (1 : Int)))] ?_
            refine bH ?_
            obtain rfl := oI h0
            exact aF (bD (aU (Q_r hO)))
          · cases hc18
    · replace h0 : (cond ((!x1_1) || (!x6_1)) (some (0 : Int)) (none)) = some r := h0
      refine aZ ?_
      refine bO [3] [(7, (bK (bN.k_words y10))), (8, (aE x6_1))] ?_
      refine aO ?_
      refine aX aB 6 [6, 8] [(28, (aE ((!x1_1) || (!x6_1))))] ?_
      refine bJ h0 (fun h0 => ?_) (fun h0 => ?_)
      · refine bV aB 1 [(4, (eI (0 : Int)))] ?_
        refine bH ?_
        obtain rfl := oI h0
        exact aF (aU (Q_r hO))
      refine bM ?_
      refine bB [(5, (bK bN.none_)), (7, (bK (bN.k_words y10)))] ?_
      refine aX aB 7 [] [(9, (eI 0)), (10, (aE false))] ?_
      refine aX aB 7 [] [(11, (eI 0)), (12, (aE false))] ?_
      refine aO ?_
      refine bW 0 ?_
      refine aX aB 5 [] [(39, (aE false))] ?_
      refine mJ (false) (fun hc20 => ?_) (fun hc20 => ?_)
      · cases hc20
      · refine aX aB 2 [9, 10, 11, 39] [(47, (aE false))] ?_
        refine mJ (false) (fun hc21 => ?_) (fun hc21 => ?_)
        · cases hc21
        · refine bV aB 2 [(5, (bK bN.none_)), (7, (bK (bN.k_words y10))), (49, (aE false))] ?_
          refine mJ (false) (fun hc22 => ?_) (fun hc22 => ?_)
          · cases hc22
          · refine bM ?_
            refine dQ [(5, (bK bN.none_)), (7, (bK (bN.k_words y10)))] ?_
            refine aF (aV (aH (?_)))
            refine aO ?_
            refine fX (fZ []) aB 6 ?_
            cases h0
  · replace h0 : ((mM b1).bind fun (x23_0, x23_1) => match x23_0 with | .none_ => (cond ((!x1_1) || (!x23_1)) (some (0 : Int)) (some (-1 : Int))) | .k_number y26 => (cond ((!x1_1) || (!x23_1)) (some (0 : Int)) ((gU y4 y26).bind fun x33 => some x33)) | .k_words y27 => (cond ((!x1_1) || (!x23_1)) (some (0 : Int)) (some (-1 : Int)))) = some r := h0
    refine aZ ?_
    refine bO [2] [(5, (bK (bN.k_number y4))), (6, (aE x1_1))] ?_
    refine aO ?_
    refine aS aB 7 ?_
    refine bE 1 ?_
    obtain ⟨⟨x23_0, x23_1⟩, hx24, h0⟩ := aW h0
    refine cW (zA b1 _ hx24) hO ?_
    intro H hO
    rcases x23_0 with _ | y26 | y27
    · replace h0 : (cond ((!x1_1) || (!x23_1)) (some (0 : Int)) (some (-1 : Int))) = some r := h0
      refine aZ ?_
      refine bO [3] [(7, (bK bN.none_)), (8, (aE x23_1))] ?_
      refine aO ?_
      refine aX aB 6 [6, 8] [(28, (aE ((!x1_1) || (!x23_1))))] ?_
      refine bJ h0 (fun h0 => ?_) (fun h0 => ?_)
      · refine bV aB 1 [(4, (eI (0 : Int)))] ?_
        refine bH ?_
        obtain rfl := oI h0
        exact aF (aU (Q_r hO))
      refine bM ?_
      refine bB [(5, (bK (bN.k_number y4))), (7, (bK bN.none_))] ?_
      refine aX aB 7 [] [(9, (eI y4)), (10, (aE true))] ?_
      refine aX aB 7 [] [(11, (eI 0)), (12, (aE false))] ?_
      refine aO ?_
      refine bW 0 ?_
      refine aX aB 5 [] [(39, (aE false))] ?_
      refine mJ (false) (fun hc29 => ?_) (fun hc29 => ?_)
      · cases hc29
      · refine aX aB 2 [9, 10, 11, 39] [(47, (aE true))] ?_
        refine mJ (true) (fun hc30 => ?_) (fun hc30 => ?_)
        · refine bV aB 1 [(4, (eI (-1 : Int)))] ?_
          refine bH ?_
          obtain rfl := oI h0
          exact aF (bD (aU (Q_r hO)))
        · cases hc30
    · replace h0 : (cond ((!x1_1) || (!x23_1)) (some (0 : Int)) ((gU y4 y26).bind fun x33 => some x33)) = some r := h0
      refine aZ ?_
      refine bO [3] [(7, (bK (bN.k_number y26))), (8, (aE x23_1))] ?_
      refine aO ?_
      refine aX aB 6 [6, 8] [(28, (aE ((!x1_1) || (!x23_1))))] ?_
      refine bJ h0 (fun h0 => ?_) (fun h0 => ?_)
      · refine bV aB 1 [(4, (eI (0 : Int)))] ?_
        refine bH ?_
        obtain rfl := oI h0
        exact aF (aU (Q_r hO))
      refine bM ?_
      refine bB [(5, (bK (bN.k_number y4))), (7, (bK (bN.k_number y26)))] ?_
      refine aX aB 7 [] [(9, (eI y4)), (10, (aE true))] ?_
      refine aX aB 7 [] [(11, (eI y26)), (12, (aE true))] ?_
      refine aO ?_
      refine bW 0 ?_
      refine aX aB 5 [] [(39, (aE true))] ?_
      refine mJ (true) (fun hc32 => ?_) (fun hc32 => ?_)
      · refine aO ?_
        refine aS aB 4 ?_
        refine bE 2 ?_
        obtain ⟨x33, hx34, h0⟩ := aW h0
        refine cW (BA y4 y26 _ hx34) hO ?_
        intro H hO
        refine aZ ?_
        refine bB [(4, (eI x33))] ?_
        refine bH ?_
        obtain rfl := oI h0
        exact aF (bD (aU (Q_r hO)))
      · cases hc32
    · replace h0 : (cond ((!x1_1) || (!x23_1)) (some (0 : Int)) (some (-1 : Int))) = some r := h0
      refine aZ ?_
      refine bO [3] [(7, (bK (bN.k_words y27))), (8, (aE x23_1))] ?_
      refine aO ?_
      refine aX aB 6 [6, 8] [(28, (aE ((!x1_1) || (!x23_1))))] ?_
      refine bJ h0 (fun h0 => ?_) (fun h0 => ?_)
      · refine bV aB 1 [(4, (eI (0 : Int)))] ?_
        refine bH ?_
        obtain rfl := oI h0
        exact aF (aU (Q_r hO))
      refine bM ?_
      refine bB [(5, (bK (bN.k_number y4))), (7, (bK (bN.k_words y27)))] ?_
      refine aX aB 7 [] [(9, (eI y4)), (10, (aE true))] ?_
      refine aX aB 7 [] [(11, (eI 0)), (12, (aE false))] ?_
      refine aO ?_
      refine bW 0 ?_
      refine aX aB 5 [] [(39, (aE false))] ?_
      refine mJ (false) (fun hc37 => ?_) (fun hc37 => ?_)
      · cases hc37
      · refine aX aB 2 [9, 10, 11, 39] [(47, (aE true))] ?_
        refine mJ (true) (fun hc38 => ?_) (fun hc38 => ?_)
        · refine bV aB 1 [(4, (eI (-1 : Int)))] ?_
          refine bH ?_
          obtain rfl := oI h0
          exact aF (bD (aU (Q_r hO)))
        · cases hc38
  · replace h0 : ((mM b1).bind fun (x39_0, x39_1) => match x39_0 with | .none_ => (cond ((!x1_1) || (!x39_1)) (some (0 : Int)) (none)) | .k_number y42 => (cond ((!x1_1) || (!x39_1)) (some (0 : Int)) (some (1 : Int))) | .k_words y43 => (cond ((!x1_1) || (!x39_1)) (some (0 : Int)) ((nM y5 y43).bind fun x56 => some x56))) = some r := h0
    refine aZ ?_
    refine bO [2] [(5, (bK (bN.k_words y5))), (6, (aE x1_1))] ?_
    refine aO ?_
    refine aS aB 7 ?_
    refine bE 1 ?_
    obtain ⟨⟨x39_0, x39_1⟩, hx40, h0⟩ := aW h0
    refine cW (zA b1 _ hx40) hO ?_
    intro H hO
    rcases x39_0 with _ | y42 | y43
    · replace h0 : (cond ((!x1_1) || (!x39_1)) (some (0 : Int)) (none)) = some r := h0
      refine aZ ?_
      refine bO [3] [(7, (bK bN.none_)), (8, (aE x39_1))] ?_
      refine aO ?_
      refine aX aB 6 [6, 8] [(28, (aE ((!x1_1) || (!x39_1))))] ?_
      refine bJ h0 (fun h0 => ?_) (fun h0 => ?_)
      · refine bV aB 1 [(4, (eI (0 : Int)))] ?_
        refine bH ?_
        obtain rfl := oI h0
        exact aF (aU (Q_r hO))
      refine bM ?_
      refine bB [(5, (bK (bN.k_words y5))), (7, (bK bN.none_))] ?_
      refine aX aB 7 [] [(9, (eI 0)), (10, (aE false))] ?_
      refine aX aB 7 [] [(11, (eI 0)), (12, (aE false))] ?_
      refine aO ?_
      refine bW 0 ?_
      refine aX aB 5 [] [(39, (aE false))] ?_
      refine mJ (false) (fun hc45 => ?_) (fun hc45 => ?_)
      · cases hc45
      · refine aX aB 2 [9, 10, 11, 39] [(47, (aE false))] ?_
        refine mJ (false) (fun hc46 => ?_) (fun hc46 => ?_)
        · cases hc46
        · refine bV aB 2 [(5, (bK (bN.k_words y5))), (7, (bK bN.none_)), (49, (aE false))] ?_
          refine mJ (false) (fun hc47 => ?_) (fun hc47 => ?_)
          · cases hc47
          · refine bM ?_
            refine dQ [(5, (bK (bN.k_words y5))), (7, (bK bN.none_))] ?_
            refine aF (aV (aH (?_)))
            refine aO ?_
            refine fX (fZ []) aB 6 ?_
            cases h0
    · replace h0 : (cond ((!x1_1) || (!x39_1)) (some (0 : Int)) (some (1 : Int))) = some r := h0
      refine aZ ?_
      refine bO [3] [(7, (bK (bN.k_number y42))), (8, (aE x39_1))] ?_
      refine aO ?_
      refine aX aB 6 [6, 8] [(28, (aE ((!x1_1) || (!x39_1))))] ?_
      refine bJ h0 (fun h0 => ?_) (fun h0 => ?_)
      · refine bV aB 1 [(4, (eI (0 : Int)))] ?_
        refine bH ?_
        obtain rfl := oI h0
        exact aF (aU (Q_r hO))
      refine bM ?_
      refine bB [(5, (bK (bN.k_words y5))), (7, (bK (bN.k_number y42)))] ?_
      refine aX aB 7 [] [(9, (eI 0)), (10, (aE false))] ?_
      refine aX aB 7 [] [(11, (eI y42)), (12, (aE true))] ?_
      refine aO ?_
      refine bW 0 ?_
      refine aX aB 5 [] [(39, (aE false))] ?_
      refine mJ (false) (fun hc49 => ?_) (fun hc49 => ?_)
      · cases hc49
      · refine aX aB 2 [9, 10, 11, 39] [(47, (aE false))] ?_
        refine mJ (false) (fun hc50 => ?_) (fun hc50 => ?_)
        · cases hc50
        · refine bV aB 2 [(5, (bK (bN.k_words y5))), (7, (bK (bN.k_number y42))), (49, (aE true))] ?_
          refine mJ (true) (fun hc51 => ?_) (fun hc51 => ?_)
          · refine bV aB 1 [(4, (eI (1 : Int)))] ?_
            refine bH ?_
            obtain rfl := oI h0
            exact aF (bD (aU (Q_r hO)))
          · cases hc51
    · replace h0 : (cond ((!x1_1) || (!x39_1)) (some (0 : Int)) ((nM y5 y43).bind fun x56 => some x56)) = some r := h0
      refine aZ ?_
      refine bO [3] [(7, (bK (bN.k_words y43))), (8, (aE x39_1))] ?_
      refine aO ?_
      refine aX aB 6 [6, 8] [(28, (aE ((!x1_1) || (!x39_1))))] ?_
      refine bJ h0 (fun h0 => ?_) (fun h0 => ?_)
      · refine bV aB 1 [(4, (eI (0 : Int)))] ?_
        refine bH ?_
        obtain rfl := oI h0
        exact aF (aU (Q_r hO))
      refine bM ?_
      refine bB [(5, (bK (bN.k_words y5))), (7, (bK (bN.k_words y43)))] ?_
      refine aX aB 7 [] [(9, (eI 0)), (10, (aE false))] ?_
      refine aX aB 7 [] [(11, (eI 0)), (12, (aE false))] ?_
      refine aO ?_
      refine bW 0 ?_
      refine aX aB 5 [] [(39, (aE false))] ?_
      refine mJ (false) (fun hc53 => ?_) (fun hc53 => ?_)
      · cases hc53
      · refine aX aB 2 [9, 10, 11, 39] [(47, (aE false))] ?_
        refine mJ (false) (fun hc54 => ?_) (fun hc54 => ?_)
        · cases hc54
        · refine bV aB 2 [(5, (bK (bN.k_words y5))), (7, (bK (bN.k_words y43))), (49, (aE false))] ?_
          refine mJ (false) (fun hc55 => ?_) (fun hc55 => ?_)
          · cases hc55
          · refine bM ?_
            refine dQ [(5, (bK (bN.k_words y5))), (7, (bK (bN.k_words y43)))] ?_
            refine aF (aV (aH (?_)))
            refine aO ?_
            refine fX (fZ []) aB 6 ?_
            refine kE 4 ?_
            obtain ⟨x56, hx57, h0⟩ := aW h0
            refine zW (KB y5 y43 _ hx57) hO ?_
            intro H hO
            refine kJ ?_
            refine bB [(4, (eI x56))] ?_
            refine bH ?_
            obtain rfl := oI h0
            exact aF (Q_r hO)

theorem SS (a0 : (List aI)) (b1 : (List aI)) (r : Int) (h0 : tT a0 b1 = some r) : dF Try.prog 69 [(eL aJ a0), (eL aJ b1)] (eI r) := by
  intro H0
  refine cY Try.func69 ?_
  have hO := aM.start H0
  unfold tT at h0
  refine aO ?_
  refine aS aB 2 ?_
  refine fQ 1 (eL aJ b1) (by kernel_rfl) (by kernel_rfl) ?_
  refine aZ ?_
  refine bO [1] [(3, (.rp (eL aJ b1)))] ?_
  refine aO ?_
  refine aO ?_
  refine aS aB 8 ?_
  refine bE 1 ?_
  obtain ⟨x1, hx2, h0⟩ := aW h0
  refine cW (IS a0 _ hx2) hO ?_
  intro H hO
  refine bE 5 ?_
  obtain ⟨x4, hx5, h0⟩ := aW h0
  refine mO [(10, false)] 68 [(eL aJ b1)] (aE x4) (!(!x1)) (by kernel_rfl) (by kernel_rfl) (by kernel_rfl) (fun hb6 => (IS b1 _ (jP hx5 hb6))) hO ?_
  intro H hO
  refine aZ ?_
  refine bO [] [(14, (aE ((!x1) || (!x4))))] ?_
  refine bJ h0 (fun h0 => ?_) (fun h0 => ?_)
  · refine bV aB 1 [(4, (eI (0 : Int)))] ?_
    refine bH ?_
    obtain rfl := oI h0
    exact aF (aU (Q_r hO))
  refine bM ?_
  refine bB [(0, (eL aJ a0)), (3, (.rp (eL aJ b1)))] ?_
  refine aX aB 6 [] [(5, (eI (if (lN b1) < (lN a0) then (lN b1) else (lN a0))))] ?_
  refine aO ?_
  refine fX (fZ []) aB 7 ?_
  obtain ⟨c8, h0⟩ := bA h0
  refine cJ 4 [0 ≤ (if (lN b1) < (lN a0) then (lN b1) else (lN a0)) ∧ (if (lN b1) < (lN a0) then (lN b1) else (lN a0)) ≤ (lN a0)] ⟨c8, trivial⟩ ?_
  obtain ⟨x9, hx10, h0⟩ := aW h0
  refine aEI (L' := fun lo11 => [(lo11, 1, [(eI x9.1)])]) 1 [(eI x9.1)] 89 [(.rp (eL aJ b1))] (fun lo11 => (.fn (.func 90) [] [(.lp lo11 0 0), (.rp (eL aJ x9.2))])) (by kernel_rfl) (by kernel_rfl) (MO b1 _ hx10) hO (fun _ => by kernel_rfl) ?_
  intro lo11 H hO
  obtain ⟨x12, hx13, h0⟩ := aW h0
  refine aD1 (fun st G' => G' = up [(lo11, 1, [(eI st)])] ++ []) [(lo11, 1, [(eI x12.1)])] x9.1 x12.1 88 [(.sl false (Int.toNat (if (lN b1) < (lN a0) then (lN b1) else (lN a0))) (fun i => aJ (List.getD a0 i default))), (.fn (.func 90) [] [(.lp lo11 0 0), (.rp (eL aJ x9.2))])] (eI x12.2) (by kernel_rfl) (by kernel_rfl) (wS.sub (as0' := [(eL aJ (List.take (Int.toNat (if (lN b1) < (lN a0) then (lN b1) else (lN a0))) a0)), (.fn (.func 90) [] [(.lp lo11 0 0), (.rp (eL aJ x9.2))])]) (uS _ (List.take (Int.toNat (if (lN b1) < (lN a0) then (lN b1) else (lN a0))) a0) (.fn (.func 90) [] [(.lp lo11 0 0), (.rp (eL aJ x9.2))]) (fun st y0 => (kR y0 st x9.2).bind fun o => some (o.2, o.1)) (fun st y0 st2 rr hr => (KE y0 lo11 st x9.2 _ (aFs hr)).toV (ys := []) (zs := [(aJ y0)]) (cs := [(.lp lo11 0 0), (.rp (eL aJ x9.2))]) (fun Gx hG => ⟨up [], up [] ++ [], hG, rfl⟩)) _ _ hx13) ⟨ZJ (Int.toNat_le.2 (And.right c8)), aQ.refl _, trivial⟩) hO rfl (fun _ h => h) ?_
  intro H hO
  refine kJ ?_
  replace hO := hO.pick (L' := []) [] (by decide) (by kernel_rfl)
  refine bO [5] [(6, (eI x12.2))] ?_
  refine aO ?_
  refine aX aB 2 [] [(27, (aE (decide (x12.2 < (0 : Int)))))] ?_
  refine bJ h0 (fun h0 => ?_) (fun h0 => ?_)
  · refine aO ?_
    refine aS aB 6 ?_
    refine bE 4 ?_
    obtain ⟨x15, hx16, h0⟩ := aW h0
    refine cW (KF (lN a0) (lN b1) _ hx16) hO ?_
    intro H hO
    refine aZ ?_
    refine bB [(4, (eI x15))] ?_
    refine bH ?_
    obtain rfl := oI h0
    exact aF (aU (Q_r hO))
  refine bM ?_
  refine bB [(0, (eL aJ a0)), (3, (.rp (eL aJ b1))), (6, (eI x12.2))] ?_
  refine aO ?_
  refine fX (fZ [36, 37, 40, 41]) aB 10 ?_
  obtain ⟨c18, h0⟩ := bA h0
  obtain ⟨c19, h0⟩ := bA h0
  refine cJ 8 [0 ≤ x12.2 ∧ x12.2 < (lN a0), 0 ≤ x12.2 ∧ x12.2 < (lN b1)] ⟨c18, c19, trivial⟩ ?_
  obtain ⟨x20, hx21, h0⟩ := aW h0
  refine zW (NT (gD a0 x12.2) (gD b1 x12.2) _ hx21) hO ?_
  intro H hO
  refine kJ ?_
  refine bB [(4, (eI x20))] ?_
  refine bH ?_
  obtain rfl := oI h0
  exact aF (Q_r hO)

theorem KS (l0 : (List aG)) (holds1_f : Nat) (holds1_a holds1_c : List V) (vZ : (List aC) → Option Bool) (holds1_h : ∀ a0 r, vZ a0 = some r → dF Try.prog holds1_f (holds1_a ++ [(eL aK a0)] ++ holds1_c) (aE r)) (r : Bool) (h0 : uM l0 vZ = some r) : dF Try.prog 48 [(eL aD l0), (.fn (.func holds1_f) holds1_a holds1_c)] (aE r) := by
  intro H0
  refine yM aB Try.func48 (by kernel_rfl) (by kernel_rfl) (by kernel_rfl) ?_
  have hO := aM.start H0
  unfold uM at h0
  refine aO ?_
  refine aS aB 2 ?_
  refine fQ 1 (.fn (.func holds1_f) holds1_a holds1_c) (by kernel_rfl) (by kernel_rfl) ?_
  refine kK 1 (aE false) (by kernel_rfl) (by kernel_rfl) hO ?_
  intro lo1 H hO
  refine cX ?_
  refine bO [1] [(3, (.rp (.fn (.func holds1_f) holds1_a holds1_c))), (4, (.lp lo1 0 0))] ?_
  refine aO ?_
  refine aX aB 3 [] [(11, (aE (decide ((4096 : Int) < (lN l0)))))] ?_
  refine bJ h0 (fun h0 => ?_) (fun h0 => ?_)
  · refine aO ?_
    refine aS aB 1 ?_
    refine gM 0 lo1 1 0 (aE false) (aE false) [(aE false)] [(lo1, 1, [(aE false)])] hO rfl (by kernel_rfl) ?_
    intro H hO
    refine cX ?_
    refine bB [(4, (.lp lo1 0 0))] ?_
    refine bH ?_
    obtain rfl := oI h0
    exact aF (aU (QM0 (.inr rfl) (rs := [.cell 4 4]) (xs := [(aE false)]) (x := (aE false)) (by kernel_rfl) (lH (lo := lo1) (k := 1) (y := (aE false)) (x := (aE false)) 0 hO (by kernel_rfl) (by kernel_rfl) (by kernel_rfl) (by kernel_rfl) mT) (by kernel_rfl) ⟨rfl, hO.out⟩))
  refine bM ?_
  refine bB [(0, (eL aD l0)), (3, (.rp (.fn (.func holds1_f) holds1_a holds1_c))), (4, (.lp lo1 0 0))] ?_
  refine aO ?_
  refine aS aB 1 ?_
  refine oA 1 (.sl true 0 (fun _ => .bad)) (eL aJ ([])) (by kernel_rfl) (by kernel_rfl) (by kernel_rfl) (eU) (by kernel_rfl) (by kernel_rfl) hO ?_
  intro lo3 H hO
  refine cX ?_
  refine bO [] [(5, (.lp lo3 0 0))] ?_
  refine aO ?_
  refine aS aB 2 ?_
  refine kK 1 (aE false) (by kernel_rfl) (by kernel_rfl) hO ?_
  intro lo4 H hO
  refine gM 2 lo4 1 0 (aE false) (aE false) [(aE false)] [(lo1, 1, [(aE false)]), (lo3, 1, [(eL aJ ([]))]), (lo4, 1, [(aE false)])] hO rfl (by kernel_rfl) ?_
  intro H hO
  refine cX ?_
  refine bO [] [(6, (.lp lo4 0 0))] ?_
  refine aO ?_
  refine aO ?_
  refine aS aB 2 ?_
  refine bE 1 ?_
  obtain ⟨x5, hx6, h0⟩ := aW h0
  refine cW (EJ l0 _ hx6) hO ?_
  intro H hO
  refine cX ?_
  refine bO [0] [(13, (.fn (.func 72) [] [(.rp (eL aD x5))]))] ?_
  refine bW 0 ?_
  refine eE [(3, (.rp (.fn (.func holds1_f) holds1_a holds1_c))), (4, (.lp lo1 0 0)), (5, (.lp lo3 0 0)), (6, (.lp lo4 0 0)), (13, (.fn (.func 72) [] [(.rp (eL aD x5))]))] ?_
  refine eH (fun T H => ∃ t4 : Bool, ∃ pO : (List aI), ∃ lF : Bool, ∃ lV : (List aG), Has T [(3, (.rp (.fn (.func holds1_f) holds1_a holds1_c))), (4, (.lp lo1 0 0)), (5, (.lp lo3 0 0)), (6, (.lp lo4 0 0)), (13, (.fn (.func 72) [] [(.rp (eL aD lV))]))] ∧ aM ⟨H0, [], []⟩ H [(lo1, 1, [(aE t4)]), (lo3, 1, [(eL aJ pO)]), (lo4, 1, [(aE lF)])] ∧ yT vZ t4 pO lF lV = some r) ?_ ⟨false, [], false, x5, .eq (by kernel_rfl), hO, h0⟩
  clear hO h0
  rintro T H ⟨t4, pO, lF, lV, hT, hO, h0⟩
  refine bF (l := [(3, (.rp (.fn (.func holds1_f) holds1_a holds1_c))), (4, (.lp lo1 0 0)), (5, (.lp lo3 0 0)), (6, (.lp lo4 0 0)), (13, (.fn (.func 72) [] [(.rp (eL aD lV))]))]) hT ?_
  clear hT
  unfold yT at h0
  obtain ⟨o0, hl0, h0⟩ := aW h0
  refine vS (fid := 72) (ys := []) (cs := [(.rp (eL aD lV))]) #[14, 15] (fun (A : rN) (b lL : Nat) (st : (Bool × (List aI) × Bool) ⊕ (Bool × (List aI) × Bool)) (G' : Gs) => Sum.elim (fun (s : Bool × (List aI) × Bool) => G' = (lL, .raw (gL b A .ready none)) :: (up [(lo1, 1, [(aE s.1)]), (lo3, 1, [(eL aJ s.2.1)]), (lo4, 1, [(aE s.2.2)])] ++ [])) (fun (s : Bool × (List aI) × Bool) => G' = (lL, .raw (gL b A .done (some .ret))) :: (up [(lo1, 1, [(aE s.1)]), (lo3, 1, [(eL aJ s.2.1)]), (lo4, 1, [(aE s.2.2)])] ++ [])) st) (.inl (t4, pO, lF)) o0 (.tup []) (by kernel_rfl) (by kernel_rfl) (by kernel_rfl) hO (fun _ _ => rfl) ?_ ?_
  · intro b lL
    clear hO h0
    refine zB _ b (fun st t14 t15 => rnd (fun (s : Bool × (List aI) × Bool) => qH vZ lV s.1 s.2.1 s.2.2 t14 t15) st) ?_ lV _ _ hl0
    intro st t14 t15 out1 rr hr
    obtain ⟨s, rfl, h1, rfl⟩ := FN hr
    clear hr
    intro Hr Gr hi hg
    obtain ⟨t4, pO, lF⟩ := s
    dsimp only [Sum.elim_inl] at hi
    obtain rfl := hi
    replace h1 : qH vZ lV t4 pO lF t14 t15 = some out1 := h1
    unfold qH at h1
    obtain ⟨E1, hE, hO⟩ := oE hg
    refine oG (tM (hO.gm 0 _ rfl).2 (by kernel_rfl) (by kernel_rfl) ?_)
    refine eE [(3, (.rp (.fn (.func holds1_f) holds1_a holds1_c))), (4, (.lp lo1 0 0)), (5, (.lp lo3 0 0)), (6, (.lp lo4 0 0)), (13, (.fn (.func 72) [] [(.rp (eL aD lV))])), (14, (eL aJ t14)), (15, (eL aK t15))] ?_
    refine aX aB 1 [13, 14] [(7, (eL aJ t14))] ?_
    refine aS aB 1 ?_
    refine aZ ?_
    refine dQ [(3, (.rp (.fn (.func holds1_f) holds1_a holds1_c))), (4, (.lp lo1 0 0)), (5, (.lp lo3 0 0)), (6, (.lp lo4 0 0)), (7, (eL aJ t14)), (8, (eL aK t15))] ?_
    refine aF (⟨rfl, rfl, (hO.gm 0 _ rfl).2, ?_⟩)
    intro o1 ho1
    replace hO := hO.mZ o1
    refine bW 1 ?_
    refine aO ?_
    refine aO ?_
    refine aS aB 18 ?_
    refine bE 1 ?_
    obtain ⟨x7, hx8, h1⟩ := aW h1
    refine cW (IS t14 _ hx8) hO ?_
    intro H hO
    refine bE 4 ?_
    refine qZ [(19, false)] 2 lo4 1 0 (aE lF) (aE lF) [(aE lF)] (by kernel_rfl) (by kernel_rfl) hO (by kernel_rfl) (!(!x7)) (by kernel_rfl) (fun hb10 => rfl) ?_
    refine bE 6 ?_
    refine qZ [(21, true), (19, false)] 1 lo3 1 0 (eL aJ pO) (eL aJ pO) [(eL aJ pO)] (by kernel_rfl) (by kernel_rfl) hO (by kernel_rfl) (lF && (!(!x7))) (by kernel_rfl) (fun hb11 => rfl) ?_
    refine bE 8 ?_
    obtain ⟨x12, hx13, h1⟩ := aW h1
    refine mO [(21, true), (19, false)] 69 [(eL aJ pO), (eL aJ t14)] (eI x12) (lF && (!(!x7))) (by kernel_rfl) (by kernel_rfl) (by kernel_rfl) (fun hb14 => (SS pO t14 _ (jP hx13 hb14))) hO ?_
    intro H hO
    refine bE 15 ?_
    obtain ⟨x15, hx16, h1⟩ := aW h1
    refine mO [(28, false)] holds1_f (holds1_a ++ [(eL aK t15)] ++ holds1_c) (aE x15) (!((!x7) || (lF && (decide ((0 : Int) ≤ x12))))) (by kernel_rfl) (by kernel_rfl) (by kernel_rfl) (fun hb17 => (holds1_h t15 _ (jP hx16 hb17))) hO ?_
    intro H hO
    refine aZ ?_
    refine bO [3, 8] [(33, (aE (((!x7) || (lF && (decide ((0 : Int) ≤ x12)))) || (!x15))))] ?_
    refine bJ h1 (fun h1 => ?_) (fun h1 => ?_)
    · refine aO ?_
      refine aS aB 1 ?_
      refine gM 0 lo1 1 0 (aE t4) (aE false) [(aE t4)] [(lo1, 1, [(aE false)]), (lo3, 1, [(eL aJ pO)]), (lo4, 1, [(aE lF)])] hO rfl (by kernel_rfl) ?_
      intro H hO
      refine cX ?_
      refine bO [7, 33] [] ?_
      refine bH ?_
      refine dQ [(4, (.lp lo1 0 0)), (5, (.lp lo3 0 0)), (6, (.lp lo4 0 0))] ?_
      obtain rfl := oI h1
      exact aF (aU (bD (⟨(cZ hO hE ho1 .dead).1, rfl, _, rfl, (cZ hO hE ho1 _).2⟩)))
    refine bM ?_
    refine bB [(4, (.lp lo1 0 0)), (5, (.lp lo3 0 0)), (6, (.lp lo4 0 0)), (7, (eL aJ t14))] ?_
    refine aS aB 3 ?_
    refine bE 1 ?_
    refine gM 1 lo3 1 0 (eL aJ pO) (eL aJ t14) [(eL aJ pO)] [(lo1, 1, [(aE t4)]), (lo3, 1, [(eL aJ t14)]), (lo4, 1, [(aE lF)])] hO rfl (by kernel_rfl) ?_
    intro H hO
    refine gM 2 lo4 1 0 (aE lF) (aE true) [(aE lF)] [(lo1, 1, [(aE t4)]), (lo3, 1, [(eL aJ t14)]), (lo4, 1, [(aE true)])] hO rfl (by kernel_rfl) ?_
    intro H hO
    refine cX ?_
    refine dQ [(4, (.lp lo1 0 0)), (5, (.lp lo3 0 0)), (6, (.lp lo4 0 0))] ?_
    obtain rfl := oI h1
    exact aF (aV (⟨(cZ hO hE ho1 .dead).1, rfl, _, rfl, (cZ hO hE ho1 _).2⟩))
  · intro b lD19 lL H' G' hi hO
    rcases o0 with s | s
    · dsimp only [Sum.elim_inl] at hi
      obtain rfl := hi
      replace h0 : (some true) = some r := h0
      obtain ⟨hlL, hO⟩ := lY hO
      refine ⟨_, _, hlL, (by intro e; cases e), ?_⟩
      refine dQ [(4, (.lp lo1 0 0))] ?_
      replace hO := hO.pick (L' := [(lo1, 1, [(aE s.1)])]) [0] (by decide) (by kernel_rfl)
      refine aF (aV (aH (?_)))
      refine aO ?_
      refine aS aB 1 ?_
      refine gM 0 lo1 1 0 (aE s.1) (aE true) [(aE s.1)] [(lo1, 1, [(aE true)])] hO rfl (by kernel_rfl) ?_
      intro H hO
      refine cX ?_
      refine bB [(4, (.lp lo1 0 0))] ?_
      refine bH ?_
      obtain rfl := oI h0
      have hD := (hO.gm 0 _ rfl).2
      replace hO := (hO.mZ .dead).nC
      exact aF (QM1 (.inr rfl) hD (rs := [.cell 4 4]) (xs := [(aE true)]) (x := (aE true)) (by kernel_rfl) (lH (lo := lo1) (k := 1) (y := (aE true)) (x := (aE true)) 0 hO (by kernel_rfl) (by kernel_rfl) (by kernel_rfl) (by kernel_rfl) mT) (by kernel_rfl) ⟨rfl, hO.out⟩)
    · dsimp only [Sum.elim_inr] at hi
      obtain rfl := hi
      replace h0 : (some s.1) = some r := h0
      obtain ⟨hlL, hO⟩ := lY hO
      refine ⟨_, _, hlL, (by intro e; cases e), ?_⟩
      refine bH ?_
      replace hO := hO.pick (L' := [(lo1, 1, [(aE s.1)])]) [0] (by decide) (by kernel_rfl)
      obtain rfl := oI h0
      have hD := (hO.gm 0 _ rfl).2
      replace hO := (hO.mZ .dead).nC
      exact aF (bD (aU (QM1 (.inr rfl) hD (rs := [.cell 4 4]) (xs := [(aE s.1)]) (x := (aE s.1)) (by kernel_rfl) (lH (lo := lo1) (k := 1) (y := (aE s.1)) (x := (aE s.1)) 0 hO (by kernel_rfl) (by kernel_rfl) (by kernel_rfl) (by kernel_rfl) mT) (by kernel_rfl) ⟨rfl, hO.out⟩)))

theorem XX (n0 : Int) (r : Bool) (h0 : AH n0 = some r) : dF Try.prog 58 [(eI n0)] (aE r) := by
  intro H0
  refine cY Try.func58 ?_
  have hO := aM.start H0
  unfold AH at h0
  refine aX aB 1 [] [] ?_
  refine bV aB 7 [(2, (aE ((decide (n0 ≤ (1048576 : Int))) && (decide ((-1048576 : Int) ≤ n0)))))] ?_
  refine bH ?_
  obtain rfl := oI h0
  exact aF (Q_r hO)

theorem wI (f0 : (List aC)) (r : Bool) (h0 : nJ f0 = some r) : dF Try.prog 36 [(eL aK f0)] (aE r) := by
  intro H0
  refine cY Try.func36 ?_
  have hO := aM.start H0
  unfold nJ at h0
  refine aX aB 1 [] [] ?_
  refine aO ?_
  refine aX aB 3 [] [(8, (aE (decide ((1024 : Int) < (lN f0)))))] ?_
  refine bJ h0 (fun h0 => ?_) (fun h0 => ?_)
  · refine bV aB 1 [(2, (aE false))] ?_
    refine bH ?_
    obtain rfl := oI h0
    exact aF (aU (Q_r hO))
  refine bM ?_
  refine bB [(0, (eL aK f0))] ?_
  refine aX aB 1 [] [(3, (eI (-2 : Int)))] ?_
  refine eV (fun T H => Has T [] ∧ aM ⟨H0, [], []⟩ H [] ∧ xJ  = some r) ?_ ?_
  · clear hO h0
    rintro T H ⟨hT, hO, h0⟩
    refine bF hT ?_
    clear hT
    unfold xJ at h0
    refine bV aB 1 [(2, (aE true))] ?_
    refine bH ?_
    obtain rfl := oI h0
    exact aF (Q_r hO)
  refine aX aB 3 [0] [(9, (eL aK f0)), (10, (eI (lN f0))), (11, (eI (0 : Int)))] ?_
  refine bW 0 ?_
  refine eE [(3, (eI (-2 : Int))), (9, (eL aK f0)), (10, (eI (lN f0))), (11, (eI (0 : Int)))] ?_
  refine eH (fun T H => ∃ rX : Int, ∃ t9 : (List aC), ∃ t10 : Int, ∃ t11 : Int, Has T [(3, (eI rX)), (9, (eL aK t9)), (10, (eI t10)), (11, (eI t11))] ∧ aM ⟨H0, [], []⟩ H [] ∧ AN rX t9 t10 t11 = some r) ?_ ⟨(-2 : Int), f0, (lN f0), (0 : Int), .eq (by kernel_rfl), hO, h0⟩
  clear hO h0
  rintro T H ⟨rX, t9, t10, t11, hT, hO, h0⟩
  refine bF hT ?_
  clear hT
  unfold AN at h0
  obtain ⟨rr0, hl0, h0⟩ := aW h0
  refine dM (by kernel_rfl) (fun (s : Int × Int) T H => Has T [(3, (eI s.1)), (9, (eL aK t9)), (10, (eI t10)), (11, (eI s.2))] ∧ aM ⟨H0, [], []⟩ H []) hl0 ⟨.eq (by kernel_rfl), hO⟩ ?_
  clear hO
  rintro k0 s out1 T H ⟨hT, hO⟩ h1 ho0
  obtain ⟨rX, t11⟩ := s
  replace h1 : nA t9 t10 rX t11 = some out1 := h1
  try dsimp only at hT
  refine bF hT ?_
  clear hT
  unfold nA at h1
  refine aX aB 1 [] [(12, (aE (decide (t11 < t10))))] ?_
  refine aO ?_
  refine bJ h1 (fun h1 => ?_) (fun h1 => ?_)
  · refine bM ?_
    refine bB [(3, (eI rX)), (9, (eL aK t9)), (10, (eI t10)), (11, (eI t11))] ?_
    refine aO ?_
    refine bW 1 ?_
    refine aO ?_
    refine aS aB 4 ?_
    obtain ⟨c3, h1⟩ := bA h1
    refine rO 2 [0 ≤ t11 ∧ t11 < (lN t9)] ⟨c3, trivial⟩ ?_
    refine kK 2 (aK (aC.mk 0 0)) (by kernel_rfl) (by kernel_rfl) hO ?_
    intro lo4 H hO
    refine gM 0 lo4 2 0 (aK (aC.mk 0 0)) (aK (gD t9 t11)) [(aK (aC.mk 0 0))] [(lo4, 2, [(aK (gD t9 t11))])] hO rfl (by kernel_rfl) ?_
    intro H hO
    refine cX ?_
    refine bO [] [(5, (.lp lo4 0 0))] ?_
    refine aO ?_
    refine aO ?_
    refine aS aB 20 ?_
    refine bE 1 ?_
    refine iS 0 lo4 2 0 (aK (gD t9 t11)) (eI ((gD t9 t11).At)) [(aK (gD t9 t11))] hO rfl ?_
    refine bE 6 ?_
    refine qZ [(19, false)] 0 lo4 2 0 (aK (gD t9 t11)) (eI ((gD t9 t11).At)) [(aK (gD t9 t11))] (by kernel_rfl) (by kernel_rfl) hO (by kernel_rfl) (!(decide (((gD t9 t11).At) ≤ rX))) (by kernel_rfl) (fun hb5 => rfl) ?_
    refine bE 11 ?_
    refine qZ [(24, false)] 0 lo4 2 0 (aK (gD t9 t11)) (eI ((gD t9 t11).Net)) [(aK (gD t9 t11))] (by kernel_rfl) (by kernel_rfl) hO (by kernel_rfl) (!((decide (((gD t9 t11).At) ≤ rX)) || (decide ((1125899906842624 : Int) ≤ ((gD t9 t11).At))))) (by kernel_rfl) (fun hb6 => rfl) ?_
    refine bE 16 ?_
    refine qZ [(29, false)] 0 lo4 2 0 (aK (gD t9 t11)) (eI ((gD t9 t11).Net)) [(aK (gD t9 t11))] (by kernel_rfl) (by kernel_rfl) hO (by kernel_rfl) (!(((decide (((gD t9 t11).At) ≤ rX)) || (decide ((1125899906842624 : Int) ≤ ((gD t9 t11).At)))) || (decide (((gD t9 t11).Net) = (0 : Int))))) (by kernel_rfl) (fun hb7 => rfl) ?_
    obtain ⟨x8, hx9, h1⟩ := aW h1
    refine mO [(29, false)] 58 [(eI ((gD t9 t11).Net))] (aE x8) (!(((decide (((gD t9 t11).At) ≤ rX)) || (decide ((1125899906842624 : Int) ≤ ((gD t9 t11).At)))) || (decide (((gD t9 t11).Net) = (0 : Int))))) (by kernel_rfl) (by kernel_rfl) (by kernel_rfl) (fun hb10 => (XX ((gD t9 t11).Net) _ (jP hx9 hb10))) hO ?_
    intro H hO
    refine aZ ?_
    refine bO [3] [(34, (aE ((((decide (((gD t9 t11).At) ≤ rX)) || (decide ((1125899906842624 : Int) ≤ ((gD t9 t11).At)))) || (decide (((gD t9 t11).Net) = (0 : Int)))) || (!x8))))] ?_
    refine bJ h1 (fun h1 => ?_) (fun h1 => ?_)
    · refine aO ?_
      refine aS aB 1 ?_
      refine aZ ?_
      refine dQ [(2, (aE false))] ?_
      replace hO := hO.pick (L' := []) [] (by decide) (by kernel_rfl)
      refine aF (aH (?_))
      refine bH ?_
      obtain rfl := oI h1
      obtain rfl : _ = rr0 := ho0
      replace h0 : some false = some r := h0
      obtain rfl := oI h0
      exact aF (aU (bD (aU (aU (bD (aU (Q_r hO)))))))
    refine bM ?_
    refine bB [(5, (.lp lo4 0 0)), (9, (eL aK t9)), (10, (eI t10)), (11, (eI t11))] ?_
    refine aS aB 3 ?_
    refine bE 1 ?_
    refine iS 0 lo4 2 0 (aK (gD t9 t11)) (eI ((gD t9 t11).At)) [(aK (gD t9 t11))] hO rfl ?_
    refine aZ ?_
    refine dQ [(3, (eI ((gD t9 t11).At))), (9, (eL aK t9)), (10, (eI t10)), (11, (eI t11))] ?_
    replace hO := hO.pick (L' := []) [] (by decide) (by kernel_rfl)
    refine aF (aV (aH (?_)))
    refine aS aB 2 ?_
    refine aZ ?_
    exact aF (aH (⟨rfl, _, (oI h1).symm, .eq (by kernel_rfl), hO⟩))
  refine gG 0 ?_
  obtain rfl := oI h1
  obtain rfl : _ = rr0 := ho0
  replace h0 : xJ  = some r := h0
  exact aF (aY (aY (bU (aH (⟨rfl, .eq (by kernel_rfl), hO, h0⟩)))))

theorem wN (l0 : (List aG)) (r : Bool) (h0 : oK l0 = some r) : dF Try.prog 27 [(eL aD l0)] (aE r) := by
  intro H0
  refine cY Try.func27 ?_
  have hO := aM.start H0
  unfold oK at h0
  refine aX aB 1 [] [] ?_
  refine aO ?_
  refine aS aB 3 ?_
  refine bE 1 ?_
  obtain ⟨x1, hx2, h0⟩ := aW h0
  refine cW (KS l0 36 [] [] (fun y0 => nJ y0) (fun y0 r h => wI y0 r h) _ hx2) hO ?_
  intro H hO
  refine aZ ?_
  refine bB [(2, (aE x1))] ?_
  refine bH ?_
  obtain rfl := oI h0
  exact aF (Q_r hO)

theorem VJ (f0 : (List aC)) (r : Int) (h0 : vN f0 = some r) : dF Try.prog 50 [(eL aK f0)] (eI r) := by
  intro H0
  refine cY Try.func50 ?_
  have hO := aM.start H0
  unfold vN at h0
  refine aX aB 1 [] [] ?_
  refine aO ?_
  refine aO ?_
  refine aS aB 8 ?_
  refine bE 1 ?_
  obtain ⟨x1, hx2, h0⟩ := aW h0
  refine cW (wI f0 _ hx2) hO ?_
  intro H hO
  refine aZ ?_
  refine bO [] [(14, (aE ((!x1) || (decide ((lN f0) = (0 : Int))))))] ?_
  refine bJ h0 (fun h0 => ?_) (fun h0 => ?_)
  · refine bV aB 1 [(2, (eI (0 : Int)))] ?_
    refine bH ?_
    obtain rfl := oI h0
    exact aF (aU (Q_r hO))
  refine bM ?_
  refine bB [(0, (eL aK f0))] ?_
  refine aX aB 2 [] [(3, (eI (0 : Int))), (4, (eI (0 : Int)))] ?_
  refine eV (fun T H => ∃ v3 : Int, ∃ iT : Int, Has T [(0, (eL aK f0)), (3, (eI v3)), (4, (eI iT))] ∧ aM ⟨H0, [], []⟩ H [] ∧ rC f0 v3 iT = some r) ?_ ?_
  · clear hO h0
    rintro T H ⟨v3, iT, hT, hO, h0⟩
    refine bF hT ?_
    clear hT
    unfold rC at h0
    refine eV (fun T H => ∃ iT : Int, Has T [(4, (eI iT))] ∧ aM ⟨H0, [], []⟩ H [] ∧ tS iT = some r) ?_ ?_
    · clear hO h0
      rintro T H ⟨iT, hT, hO, h0⟩
      refine bF hT ?_
      clear hT
      unfold tS at h0
      refine bV aB 2 [(2, (eI iT))] ?_
      refine bH ?_
      obtain rfl := oI h0
      exact aF (Q_r hO)
    refine aX aB 3 [0] [(24, (eL aK f0)), (25, (eI (lN f0))), (26, (eI (0 : Int)))] ?_
    refine bW 0 ?_
    refine eE [(3, (eI v3)), (4, (eI iT)), (24, (eL aK f0)), (25, (eI (lN f0))), (26, (eI (0 : Int)))] ?_
    refine eH (fun T H => ∃ v3 : Int, ∃ iT : Int, ∃ t24 : (List aC), ∃ t25 : Int, ∃ t26 : Int, Has T [(3, (eI v3)), (4, (eI iT)), (24, (eL aK t24)), (25, (eI t25)), (26, (eI t26))] ∧ aM ⟨H0, [], []⟩ H [] ∧ uB v3 iT t24 t25 t26 = some r) ?_ ⟨v3, iT, f0, (lN f0), (0 : Int), .eq (by kernel_rfl), hO, h0⟩
    clear hO h0
    rintro T H ⟨v3, iT, t24, t25, t26, hT, hO, h0⟩
    refine bF hT ?_
    clear hT
    unfold uB at h0
    obtain ⟨rr0, hl0, h0⟩ := aW h0
    refine dM (by kernel_rfl) (fun (s : Int × Int × Int) T H => Has T [(3, (eI s.1)), (4, (eI s.2.1)), (24, (eL aK t24)), (25, (eI t25)), (26, (eI s.2.2))] ∧ aM ⟨H0, [], []⟩ H []) hl0 ⟨.eq (by kernel_rfl), hO⟩ ?_
    clear hO
    rintro k0 s out1 T H ⟨hT, hO⟩ h1 ho0
    obtain ⟨v3, iT, t26⟩ := s
    replace h1 : nS t24 t25 v3 iT t26 = some out1 := h1
    try dsimp only at hT
    refine bF hT ?_
    clear hT
    unfold nS at h1
    refine aX aB 1 [] [(27, (aE (decide (t26 < t25))))] ?_
    refine aO ?_
    refine bJ h1 (fun h1 => ?_) (fun h1 => ?_)
    · refine bM ?_
      refine bB [(3, (eI v3)), (4, (eI iT)), (24, (eL aK t24)), (25, (eI t25)), (26, (eI t26))] ?_
      refine aO ?_
      refine bW 1 ?_
      refine aO ?_
      refine aS aB 4 ?_
      obtain ⟨c6, h1⟩ := bA h1
      refine rO 2 [0 ≤ t26 ∧ t26 < (lN t24)] ⟨c6, trivial⟩ ?_
      refine kK 2 (aK (aC.mk 0 0)) (by kernel_rfl) (by kernel_rfl) hO ?_
      intro lo7 H hO
      refine gM 0 lo7 2 0 (aK (aC.mk 0 0)) (aK (gD t24 t26)) [(aK (aC.mk 0 0))] [(lo7, 2, [(aK (gD t24 t26))])] hO rfl (by kernel_rfl) ?_
      intro H hO
      refine cX ?_
      refine bO [] [(6, (.lp lo7 0 0))] ?_
      refine aO ?_
      refine aS aB 5 ?_
      refine bE 2 ?_
      refine iS 0 lo7 2 0 (aK (gD t24 t26)) (eI ((gD t24 t26).Net)) [(aK (gD t24 t26))] hO rfl ?_
      refine aZ ?_
      replace hO := hO.pick (L' := []) [] (by decide) (by kernel_rfl)
      refine bO [3, 6] [(3, (eI (wR (v3 + ((gD t24 t26).Net)))))] ?_
      refine aS aB 4 ?_
      refine aZ ?_
      refine dQ [(3, (eI (wR (v3 + ((gD t24 t26).Net))))), (4, (eI (if (wR (v3 + ((gD t24 t26).Net))) < iT then (wR (v3 + ((gD t24 t26).Net))) else iT))), (24, (eL aK t24)), (25, (eI t25)), (26, (eI t26))] ?_
      refine aF (aV (aH (?_)))
      refine aS aB 2 ?_
      refine aZ ?_
      exact aF (aH (⟨rfl, _, (oI h1).symm, .eq (by kernel_rfl), hO⟩))
    refine gG 0 ?_
    obtain rfl := oI h1
    obtain rfl : _ = rr0 := ho0
    replace h0 : tS iT = some r := h0
    exact aF (aY (aY (bU (aH (⟨rfl, _, .eq (by kernel_rfl), hO, h0⟩)))))
  refine aO ?_
  refine aS aB 5 ?_
  obtain ⟨c8, h0⟩ := bA h0
  refine qK [0 ≤ (0 : Int) ∧ (0 : Int) < (lN f0)] ⟨c8, trivial⟩ ?_
  refine bO [] [(19, (aE (decide (((gD f0 (0 : Int)).At) = (-1 : Int)))))] ?_
  refine bJ h0 (fun h0 => ?_) (fun h0 => ?_)
  · refine aS aB 5 ?_
    obtain ⟨c10, h0⟩ := bA h0
    refine qK [0 ≤ (0 : Int) ∧ (0 : Int) < (lN f0)] ⟨c10, trivial⟩ ?_
    exact aF (aH (⟨rfl, _, _, .eq (by kernel_rfl), hO, h0⟩))
  refine bM ?_
  exact aF (aH (⟨rfl, _, _, .eq (by kernel_rfl), hO, h0⟩))

theorem PW (f0 : (List aC)) (r : Bool) (h0 : sG f0 = some r) : dF Try.prog 49 [(eL aK f0)] (aE r) := by
  intro H0
  refine cY Try.func49 ?_
  have hO := aM.start H0
  unfold sG at h0
  refine aX aB 1 [] [] ?_
  refine aO ?_
  refine aS aB 8 ?_
  refine bE 1 ?_
  obtain ⟨x1, hx2, h0⟩ := aW h0
  refine cW (wI f0 _ hx2) hO ?_
  intro H hO
  refine bE 4 ?_
  obtain ⟨x4, hx5, h0⟩ := aW h0
  refine mO [(5, true)] 50 [(eL aK f0)] (eI x4) x1 (by kernel_rfl) (by kernel_rfl) (by kernel_rfl) (fun hb6 => (VJ f0 _ (jP hx5 hb6))) hO ?_
  intro H hO
  refine aZ ?_
  refine bB [(2, (aE (x1 && (decide ((0 : Int) ≤ x4)))))] ?_
  refine bH ?_
  obtain rfl := oI h0
  exact aF (Q_r hO)

theorem yV (l0 : (List aG)) (r : Bool) (h0 : oP l0 = some r) : dF Try.prog 28 [(eL aD l0)] (aE r) := by
  intro H0
  refine cY Try.func28 ?_
  have hO := aM.start H0
  unfold oP at h0
  refine aX aB 1 [] [] ?_
  refine aO ?_
  refine aS aB 3 ?_
  refine bE 1 ?_
  obtain ⟨x1, hx2, h0⟩ := aW h0
  refine cW (KS l0 49 [] [] (fun y0 => sG y0) (fun y0 r h => PW y0 r h) _ hx2) hO ?_
  intro H hO
  refine aZ ?_
  refine bB [(2, (aE x1))] ?_
  refine bH ?_
  obtain rfl := oI h0
  exact aF (Q_r hO)

theorem EW (w0 : bY) (l1 : (List aG)) (t2 : Int) (r : Int) (h0 : pT w0 l1 t2 = some r) : dF Try.prog 12 [(cO w0), (eL aD l1), (eI t2)] (eI r) := by
  intro H0
  refine cY Try.func12 ?_
  have hO := aM.start H0
  unfold pT at h0
  refine aO ?_
  refine aS aB 2 ?_
  refine fQ 3 (cO w0) (by kernel_rfl) (by kernel_rfl) ?_
  refine aZ ?_
  refine bO [0] [(3, (.rp (cO w0)))] ?_
  refine aO ?_
  refine bW 0 ?_
  refine aO ?_
  refine aS aB 9 ?_
  refine bE 1 ?_
  obtain ⟨x1, hx2, h0⟩ := aW h0
  refine cW (EV w0 _ hx2) hO ?_
  intro H hO
  refine bE 5 ?_
  obtain ⟨x4, hx5, h0⟩ := aW h0
  refine mO [(11, false)] 27 [(eL aD l1)] (aE x4) (!(!decide (x1 = (0 : Int)))) (by kernel_rfl) (by kernel_rfl) (by kernel_rfl) (fun hb6 => (wN l1 _ (jP hx5 hb6))) hO ?_
  intro H hO
  refine aZ ?_
  refine bO [3] [(7, (aE ((!decide (x1 = (0 : Int))) || (!x4))))] ?_
  refine bJ h0 (fun h0 => ?_) (fun h0 => ?_)
  · refine bV aB 1 [(6, (eI (2 : Int)))] ?_
    refine bH ?_
    obtain rfl := oI h0
    exact aF (bD (aU (Q_r hO)))
  refine aO ?_
  refine aS aB 4 ?_
  refine bE 1 ?_
  obtain ⟨x8, hx9, h0⟩ := aW h0
  refine cW (yV l1 _ hx9) hO ?_
  intro H hO
  refine aZ ?_
  refine bB [(2, (eI t2)), (16, (aE (!x8)))] ?_
  refine bJ h0 (fun h0 => ?_) (fun h0 => ?_)
  · refine bV aB 1 [(6, (eI (20 : Int)))] ?_
    refine bH ?_
    obtain rfl := oI h0
    exact aF (bD (aU (Q_r hO)))
  refine bV aB 7 [(20, (aE ((decide (t2 < (0 : Int))) || (decide ((1125899906842624 : Int) < t2)))))] ?_
  refine bJ h0 (fun h0 => ?_) (fun h0 => ?_)
  · refine bV aB 1 [(6, (eI (13 : Int)))] ?_
    refine bH ?_
    obtain rfl := oI h0
    exact aF (bD (aU (Q_r hO)))
  refine bM ?_
  refine dQ [] ?_
  refine aF (aV (aH (?_)))
  refine bV aB 1 [(6, (eI (0 : Int)))] ?_
  refine bH ?_
  obtain rfl := oI h0
  exact aF (Q_r hO)

theorem QJ (mK : Int) (hop1 : Int) (r : Bool) (h0 : yO mK hop1 = some r) : dF Try.prog 29 [(eI mK), (eI hop1)] (aE r) := by
  intro H0
  refine cY Try.func29 ?_
  have hO := aM.start H0
  unfold yO at h0
  refine aX aB 1 [] [] ?_
  refine bV aB 15 [(4, (aE ((((decide ((1 : Int) ≤ mK)) && (decide (mK ≤ (1099511627776 : Int)))) && (decide ((1 : Int) ≤ hop1))) && (decide (hop1 ≤ (1099511627776 : Int))))))] ?_
  refine bH ?_
  obtain rfl := oI h0
  exact aF (Q_r hO)

theorem GA (t0 : Int) (r : Bool) (h0 : tI t0 = some r) : dF Try.prog 30 [(eI t0)] (aE r) := by
  intro H0
  refine cY Try.func30 ?_
  have hO := aM.start H0
  unfold tI at h0
  refine aX aB 1 [] [] ?_
  refine bV aB 7 [(2, (aE ((decide ((0 : Int) ≤ t0)) && (decide (t0 ≤ (1125899906842624 : Int))))))] ?_
  refine bH ?_
  obtain rfl := oI h0
  exact aF (Q_r hO)

theorem XV (a0 : Int) (b1 : Int) (r : (Int × Int × Int)) (h0 : xF a0 b1 = some r) : dF Try.prog 51 [(eI a0), (eI b1)] (.tup [(eI r.1), (eI r.2.1), (eI r.2.2)]) := by
  intro H0
  refine cY Try.func51 ?_
  have hO := aM.start H0
  unfold xF at h0
  refine aX aB 3 [] [] ?_
  refine aO ?_
  refine aX aB 2 [] [(10, (aE (decide (b1 < (1 : Int)))))] ?_
  refine bJ h0 (fun h0 => ?_) (fun h0 => ?_)
  · refine bV aB 3 [(4, (eI (0 : Int))), (5, (eI (0 : Int))), (6, (eI (2 : Int)))] ?_
    refine bH ?_
    obtain rfl := oI h0
    exact aF (aU (Q_r hO))
  refine bM ?_
  refine bB [(0, (eI a0)), (1, (eI b1))] ?_
  refine aO ?_
  refine fX (fZ []) aB 8 ?_
  obtain ⟨c2, h0⟩ := bA h0
  obtain ⟨c3, h0⟩ := bA h0
  refine OG (Ds := [b1 ≠ 0, b1 ≠ 0]) (by kernel_rfl) ⟨c2, c3, trivial⟩ ?_
  refine bO [0] [(7, (eI (wR (Int.tdiv a0 b1)))), (8, (eI (Int.tmod a0 b1)))] ?_
  refine eV (fun T H => ∃ q7 : Int, ∃ r8 : Int, Has T [(7, (eI q7)), (8, (eI r8))] ∧ aM ⟨H0, [], []⟩ H [] ∧ vV q7 r8 = some r) ?_ ?_
  · clear hO h0
    rintro T H ⟨q7, r8, hT, hO, h0⟩
    refine bF hT ?_
    clear hT
    unfold vV at h0
    refine bV aB 5 [(4, (eI q7)), (5, (eI r8)), (6, (eI (0 : Int)))] ?_
    refine bH ?_
    obtain rfl := oI h0
    exact aF (Q_r hO)
  refine aX aB 2 [] [(18, (aE (decide ((Int.tmod a0 b1) < (0 : Int)))))] ?_
  refine bJ h0 (fun h0 => ?_) (fun h0 => ?_)
  · refine aS aB 7 ?_
    refine aZ ?_
    exact aF (aH (⟨rfl, _, _, .eq (by kernel_rfl), hO, h0⟩))
  refine bM ?_
  exact aF (aH (⟨rfl, _, _, .eq (by kernel_rfl), hO, h0⟩))

theorem CM (hop0 : Int) (n1 : Int) (r : Int) (h0 : qC hop0 n1 = some r) : dF Try.prog 31 [(eI hop0), (eI n1)] (eI r) := by
  intro H0
  refine cY Try.func31 ?_
  have hO := aM.start H0
  unfold qC at h0
  refine aX aB 1 [] [] ?_
  refine aO ?_
  refine aX aB 2 [] [(9, (aE (decide (n1 < (0 : Int)))))] ?_
  refine bJ h0 (fun h0 => ?_) (fun h0 => ?_)
  · refine bV aB 1 [(4, (eI (0 : Int)))] ?_
    refine bH ?_
    obtain rfl := oI h0
    exact aF (aU (Q_r hO))
  refine bM ?_
  refine bB [(0, (eI hop0)), (1, (eI n1))] ?_
  refine aO ?_
  refine aS aB 10 ?_
  refine bE 2 ?_
  obtain ⟨x2, hx3, h0⟩ := aW h0
  refine cW (XV n1 hop0 _ hx3) hO ?_
  intro H hO
  refine aZ ?_
  refine bO [1] [(5, (eI x2.1))] ?_
  refine bV aB 5 [(4, (eI (wR ((wR (x2.1 + (1 : Int))) * hop0))))] ?_
  refine bH ?_
  obtain rfl := oI h0
  exact aF (Q_r hO)

theorem aAn (mK : Int) (hop1 : Int) (t2 : Int) (r : (Int × Int)) (h0 : zJ mK hop1 t2 = some r) : dF Try.prog 13 [(eI mK), (eI hop1), (eI t2)] (.tup [(eI r.1), (eI r.2)]) := by
  intro H0
  refine cY Try.func13 ?_
  have hO := aM.start H0
  unfold zJ at h0
  refine aX aB 2 [] [] ?_
  refine aO ?_
  refine bW 0 ?_
  refine aO ?_
  refine aS aB 5 ?_
  refine bE 2 ?_
  obtain ⟨x1, hx2, h0⟩ := aW h0
  refine cW (QJ mK hop1 _ hx2) hO ?_
  intro H hO
  refine aZ ?_
  refine bO [] [(8, (aE (!x1)))] ?_
  refine bJ h0 (fun h0 => ?_) (fun h0 => ?_)
  · refine bV aB 2 [(6, (eI (0 : Int))), (7, (eI (2 : Int)))] ?_
    refine bH ?_
    obtain rfl := oI h0
    exact aF (bD (aU (Q_r hO)))
  refine aO ?_
  refine aS aB 4 ?_
  refine bE 1 ?_
  obtain ⟨x5, hx6, h0⟩ := aW h0
  refine cW (GA t2 _ hx6) hO ?_
  intro H hO
  refine aZ ?_
  refine bO [8] [(13, (aE (!x5)))] ?_
  refine bJ h0 (fun h0 => ?_) (fun h0 => ?_)
  · refine bV aB 2 [(6, (eI (0 : Int))), (7, (eI (13 : Int)))] ?_
    refine bH ?_
    obtain rfl := oI h0
    exact aF (bD (aU (Q_r hO)))
  refine aX aB 3 [13] [(17, (aE (decide (t2 = (1125899906842624 : Int)))))] ?_
  refine bJ h0 (fun h0 => ?_) (fun h0 => ?_)
  · refine bV aB 2 [(6, (eI (1125899906842624 : Int))), (7, (eI (0 : Int)))] ?_
    refine bH ?_
    obtain rfl := oI h0
    exact aF (bD (aU (Q_r hO)))
  refine bM ?_
  refine dQ [(0, (eI mK)), (1, (eI hop1)), (2, (eI t2))] ?_
  refine aF (aV (aH (?_)))
  refine aO ?_
  refine aS aB 8 ?_
  refine bE 4 ?_
  obtain ⟨x10, hx11, h0⟩ := aW h0
  refine cW (CM hop1 (wR (t2 - mK)) _ hx11) hO ?_
  intro H hO
  refine aZ ?_
  refine bB [(6, (eI (if (1125899906842624 : Int) < x10 then (1125899906842624 : Int) else x10))), (7, (eI (0 : Int)))] ?_
  refine bH ?_
  obtain rfl := oI h0
  exact aF (Q_r hO)

theorem JB (l0 : (List aG)) (n1 : Int) (r : Int) (h0 : rZ l0 n1 = some r) : dF Try.prog 32 [(eL aD l0), (eI n1)] (eI r) := by
  intro H0
  refine cY Try.func32 ?_
  have hO := aM.start H0
  unfold rZ at h0
  refine aX aB 1 [] [] ?_
  refine aO ?_
  refine bW 0 ?_
  refine aO ?_
  refine aS aB 12 ?_
  refine bE 1 ?_
  obtain ⟨x1, hx2, h0⟩ := aW h0
  refine cW (wN l0 _ hx2) hO ?_
  intro H hO
  refine aZ ?_
  refine bO [1] [(5, (aE (((!x1) || (decide (n1 < (1 : Int)))) || (decide ((64 : Int) < n1)))))] ?_
  refine bJ h0 (fun h0 => ?_) (fun h0 => ?_)
  · refine bV aB 1 [(4, (eI (2 : Int)))] ?_
    refine bH ?_
    obtain rfl := oI h0
    exact aF (bD (aU (Q_r hO)))
  refine aO ?_
  refine aS aB 4 ?_
  refine bE 1 ?_
  obtain ⟨x5, hx6, h0⟩ := aW h0
  refine cW (yV l0 _ hx6) hO ?_
  intro H hO
  refine aZ ?_
  refine bB [(17, (aE (!x5)))] ?_
  refine bJ h0 (fun h0 => ?_) (fun h0 => ?_)
  · refine bV aB 1 [(4, (eI (20 : Int)))] ?_
    refine bH ?_
    obtain rfl := oI h0
    exact aF (bD (aU (Q_r hO)))
  refine bM ?_
  refine dQ [] ?_
  refine aF (aV (aH (?_)))
  refine bV aB 1 [(4, (eI (0 : Int)))] ?_
  refine bH ?_
  obtain rfl := oI h0
  exact aF (Q_r hO)

theorem EU (l0 : (List aG)) (r : (List aG)) (h0 : pU l0 = some r) : dF Try.prog 52 [(eL aD l0)] (.fn (.func 70) [] [(.rp (eL aD r))]) := by
  intro H0
  refine cY Try.func52 ?_
  have hO := aM.start H0
  unfold pU at h0
  refine aO ?_
  refine aS aB 2 ?_
  refine fQ 1 (eL aD l0) (by kernel_rfl) (by kernel_rfl) ?_
  refine aZ ?_
  refine bB [(1, (.rp (eL aD l0)))] ?_
  refine bV aB 2 [(2, (.fn (.func 70) [] [(.rp (eL aD l0))]))] ?_
  refine bH ?_
  obtain rfl := oI h0
  exact aF (jV (x := (.fn (.func 70) [] [(.rp (eL aD l0))])) (by kernel_rfl) (aQ.refl _) ⟨rfl, hO.out⟩)

theorem AS {σ : Type} (I : σ → Gs → Prop) (yield0_b : Nat) (cG : σ → aG → Option (σ × Bool)) (yield0_h : ∀ st a0 st2 r, cG st a0 = some (st2, r) → AO Try.prog (yv yield0_b) I st [(aD a0)] st2 (aE r)) (t1 : (List aG)) (sg0 : σ) (r : σ) (h0 : mQ cG t1 sg0 = some r) : wS Try.prog 70 I sg0 [(yv yield0_b), (.rp (eL aD t1))] r (.tup []) := by
  intro H0 G0 hI hg
  refine cY Try.func70 ?_
  obtain ⟨G, hO, hI⟩ : ∃ G, aM ⟨H0, List.map (fun p : Nat × dK => p.1) G0, G⟩ H0 [] ∧ I sg0 G := ⟨G0, aM.CQ hg, hI⟩
  clear hg
  unfold mQ at h0
  refine aX aB 3 [1] [(5, (eL aD t1)), (6, (eI (lN t1))), (7, (eI (0 : Int)))] ?_
  refine bW 0 ?_
  refine eE [(0, (yv yield0_b)), (5, (eL aD t1)), (6, (eI (lN t1))), (7, (eI (0 : Int)))] ?_
  refine eH (fun T H => ∃ sg : σ, ∃ t5 : (List aG), ∃ t6 : Int, ∃ t7 : Int, ∃ G : Gs, Has T [(0, (yv yield0_b)), (5, (eL aD t5)), (6, (eI t6)), (7, (eI t7))] ∧ aM ⟨H0, List.map (fun p : Nat × dK => p.1) G0, G⟩ H [] ∧ I sg G ∧ qO cG sg t5 t6 t7 = some r) ?_ ⟨sg0, t1, (lN t1), (0 : Int), G, .eq (by kernel_rfl), hO, hI, h0⟩
  clear hO hI h0
  rintro T H ⟨sg, t5, t6, t7, G, hT, hO, hI, h0⟩
  refine bF hT ?_
  clear hT
  unfold qO at h0
  obtain ⟨rr0, hl0, h0⟩ := aW h0
  refine dM (by kernel_rfl) (fun (s : σ × Int) T H => ∃ G : Gs, Has T [(0, (yv yield0_b)), (5, (eL aD t5)), (6, (eI t6)), (7, (eI s.2))] ∧ aM ⟨H0, List.map (fun p : Nat × dK => p.1) G0, G⟩ H [] ∧ I s.1 G) hl0 ⟨G, .eq (by kernel_rfl), hO, hI⟩ ?_
  clear hO hI
  rintro k0 s out1 T H ⟨G, hT, hO, hI⟩ h1 ho0
  obtain ⟨sg, t7⟩ := s
  replace h1 : kT cG t5 t6 sg t7 = some out1 := h1
  try dsimp only at hT
  refine bF hT ?_
  clear hT
  unfold kT at h1
  refine aX aB 1 [] [(8, (aE (decide (t7 < t6))))] ?_
  refine aO ?_
  refine bJ h1 (fun h1 => ?_) (fun h1 => ?_)
  · refine bM ?_
    refine bB [(0, (yv yield0_b)), (5, (eL aD t5)), (6, (eI t6)), (7, (eI t7))] ?_
    refine aO ?_
    refine bW 1 ?_
    refine aO ?_
    refine aS aB 4 ?_
    obtain ⟨c2, h1⟩ := bA h1
    refine rO 2 [0 ≤ t7 ∧ t7 < (lN t5)] ⟨c2, trivial⟩ ?_
    refine oA 3 (.agg [(.sl true 0 (fun _ => .bad)), (eI 0), (eI 0)]) (aD (aG.mk ([]) 0 0)) (by kernel_rfl) (by kernel_rfl) (by kernel_rfl) (xH (xs := [(.sl true 0 (fun _ => .bad)), (eI 0), (eI 0)]) (ys := [(eL aJ ([])), (eI 0), (eI 0)]) ⟨eU, aQ.refl _, aQ.refl _, trivial⟩) (by kernel_rfl) (by kernel_rfl) hO ?_
    intro lo3 H hO
    refine gM 0 lo3 3 0 (aD (aG.mk ([]) 0 0)) (aD (gD t5 t7)) [(aD (aG.mk ([]) 0 0))] [(lo3, 3, [(aD (gD t5 t7))])] hO rfl (by kernel_rfl) ?_
    intro H hO
    refine cX ?_
    refine bO [] [(4, (.lp lo3 0 0))] ?_
    refine aO ?_
    refine aS aB 14 ?_
    refine bE 1 ?_
    refine iS 0 lo3 3 0 (aD (gD t5 t7)) (eI ((gD t5 t7).Net)) [(aD (gD t5 t7))] hO rfl ?_
    refine bE 5 ?_
    refine qZ [(14, true)] 0 lo3 3 0 (aD (gD t5 t7)) (eI ((gD t5 t7).At)) [(aD (gD t5 t7))] (by kernel_rfl) (by kernel_rfl) hO (by kernel_rfl) (decide ((0 : Int) < ((gD t5 t7).Net))) (by kernel_rfl) (fun hb4 => rfl) ?_
    refine bE 10 ?_
    refine qZ [(19, true)] 0 lo3 3 0 (aD (gD t5 t7)) (aD (gD t5 t7)) [(aD (gD t5 t7))] (by kernel_rfl) (by kernel_rfl) hO (by kernel_rfl) ((decide ((0 : Int) < ((gD t5 t7).Net))) && (decide ((-1 : Int) < ((gD t5 t7).At)))) (by kernel_rfl) (fun hb5 => rfl) ?_
    obtain ⟨⟨x8, x9⟩, hx7, h1⟩ := aW h1
    replace hx7 := ZU hx7
    refine WZ (I := I) [(19, true)] ((decide ((0 : Int) < ((gD t5 t7).Net))) && (decide ((-1 : Int) < ((gD t5 t7).At)))) (yv yield0_b) [(aD (gD t5 t7))] (aE x9) ⟨fun hb => yield0_h _ (gD t5 t7) x8 x9 (hx7.1 hb), hx7.2⟩ hO hI ?_
    intro G H hO hI
    refine aZ ?_
    replace hO := hO.pick (L' := []) [] (by decide) (by kernel_rfl)
    refine bO [4] [(24, (aE (((decide ((0 : Int) < ((gD t5 t7).Net))) && (decide ((-1 : Int) < ((gD t5 t7).At)))) && (!x9))))] ?_
    refine bJ h1 (fun h1 => ?_) (fun h1 => ?_)
    · refine bH ?_
      obtain rfl := oI h1
      obtain rfl : _ = rr0 := ho0
      replace h0 : some x8 = some r := h0
      obtain rfl := oI h0
      exact aF (bD (aU (aU (bD (jV (x := (.tup [])) (by kernel_rfl) (aQ.refl _) ⟨rfl, G, hI, hO.yD⟩)))))
    refine bM ?_
    refine dQ [(0, (yv yield0_b)), (5, (eL aD t5)), (6, (eI t6)), (7, (eI t7))] ?_
    refine aF (aV (aH (?_)))
    refine aS aB 2 ?_
    refine aZ ?_
    exact aF (aH (⟨rfl, _, (oI h1).symm, _, .eq (by kernel_rfl), hO, hI⟩))
  refine gG 0 ?_
  obtain rfl := oI h1
  obtain rfl : _ = rr0 := ho0
  replace h0 : some sg = some r := h0
  obtain rfl := oI h0
  exact aF (aY (aY (bU (xY (x := (.tup [])) (by kernel_rfl) (aQ.refl _) ⟨rfl, G, hI, hO.yD⟩))))

theorem KC (x0 : Int) (r : Int) (h0 : pK x0 = some r) : dF Try.prog 84 [(cQ .u64 x0)] (eI r) := by
  intro H0
  refine cY Try.func84 ?_
  have hO := aM.start H0
  unfold pK at h0
  refine aX aB 1 [] [(2, (eI (0 : Int)))] ?_
  refine eV (fun T H => ∃ x0 : Int, ∃ n2 : Int, Has T [(0, (cQ .u64 x0)), (2, (eI n2))] ∧ aM ⟨H0, [], []⟩ H [] ∧ lS x0 n2 = some r) ?_ ?_
  · clear hO h0
    rintro T H ⟨x0, n2, hT, hO, h0⟩
    refine bF hT ?_
    clear hT
    unfold lS at h0
    refine eV (fun T H => ∃ x0 : Int, ∃ n2 : Int, Has T [(0, (cQ .u64 x0)), (2, (eI n2))] ∧ aM ⟨H0, [], []⟩ H [] ∧ lR x0 n2 = some r) ?_ ?_
    · clear hO h0
      rintro T H ⟨x0, n2, hT, hO, h0⟩
      refine bF hT ?_
      clear hT
      unfold lR at h0
      refine eV (fun T H => ∃ x0 : Int, ∃ n2 : Int, Has T [(0, (cQ .u64 x0)), (2, (eI n2))] ∧ aM ⟨H0, [], []⟩ H [] ∧ mU x0 n2 = some r) ?_ ?_
      · clear hO h0
        rintro T H ⟨x0, n2, hT, hO, h0⟩
        refine bF hT ?_
        clear hT
        unfold mU at h0
        refine aO ?_
        refine aS aB 7 ?_
        obtain ⟨c1, h0⟩ := bA h0
        refine qK [0 ≤ (IntKind.u8.wrap x0) ∧ (IntKind.u8.wrap x0) < ((ByteArray.size (⟨#[0, 1, 2, 2, 3, 3, 3, 3, 4, 4, 4, 4, 4, 4, 4, 4, 5, 5, 5, 5, 5, 5, 5, 5, 5, 5, 5, 5, 5, 5, 5, 5, 6, 6, 6, 6, 6, 6, 6, 6, 6, 6, 6, 6, 6, 6, 6, 6, 6, 6, 6, 6, 6, 6, 6, 6, 6, 6, 6, 6, 6, 6, 6, 6, 7, 7, 7, 7, 7, 7, 7, 7, 7, 7, 7, 7, 7, 7, 7, 7, 7, 7, 7, 7, 7, 7, 7, 7, 7, 7, 7, 7, 7, 7, 7, 7, 7, 7, 7, 7, 7, 7, 7, 7, 7, 7, 7, 7, 7, 7, 7, 7, 7, 7, 7, 7, 7, 7, 7, 7, 7, 7, 7, 7, 7, 7, 7, 7, 8, 8, 8, 8, 8, 8, 8, 8, 8, 8, 8, 8, 8, 8, 8, 8, 8, 8, 8, 8, 8, 8, 8, 8, 8, 8, 8, 8, 8, 8, 8, 8, 8, 8, 8, 8, 8, 8, 8, 8, 8, 8, 8, 8, 8, 8, 8, 8, 8, 8, 8, 8, 8, 8, 8, 8, 8, 8, 8, 8, 8, 8, 8, 8, 8, 8, 8, 8, 8, 8, 8, 8, 8, 8, 8, 8, 8, 8, 8, 8, 8, 8, 8, 8, 8, 8, 8, 8, 8, 8, 8, 8, 8, 8, 8, 8, 8, 8, 8, 8, 8, 8, 8, 8, 8, 8, 8, 8, 8, 8, 8, 8, 8, 8, 8, 8, 8, 8, 8, 8, 8, 8, 8, 8, 8, 8, 8, 8]⟩ : ByteArray) : Nat) : Int)] ⟨c1, trivial⟩ ?_
        refine bB [(2, (eI (wR (n2 + (wR (bt (⟨#[0, 1, 2, 2, 3, 3, 3, 3, 4, 4, 4, 4, 4, 4, 4, 4, 5, 5, 5, 5, 5, 5, 5, 5, 5, 5, 5, 5, 5, 5, 5, 5, 6, 6, 6, 6, 6, 6, 6, 6, 6, 6, 6, 6, 6, 6, 6, 6, 6, 6, 6, 6, 6, 6, 6, 6, 6, 6, 6, 6, 6, 6, 6, 6, 7, 7, 7, 7, 7, 7, 7, 7, 7, 7, 7, 7, 7, 7, 7, 7, 7, 7, 7, 7, 7, 7, 7, 7, 7, 7, 7, 7, 7, 7, 7, 7, 7, 7, 7, 7, 7, 7, 7, 7, 7, 7, 7, 7, 7, 7, 7, 7, 7, 7, 7, 7, 7, 7, 7, 7, 7, 7, 7, 7, 7, 7, 7, 7, 8, 8, 8, 8, 8, 8, 8, 8, 8, 8, 8, 8, 8, 8, 8, 8, 8, 8, 8, 8, 8, 8, 8, 8, 8, 8, 8, 8, 8, 8, 8, 8, 8, 8, 8, 8, 8, 8, 8, 8, 8, 8, 8, 8, 8, 8, 8, 8, 8, 8, 8, 8, 8, 8, 8, 8, 8, 8, 8, 8, 8, 8, 8, 8, 8, 8, 8, 8, 8, 8, 8, 8, 8, 8, 8, 8, 8, 8, 8, 8, 8, 8, 8, 8, 8, 8, 8, 8, 8, 8, 8, 8, 8, 8, 8, 8, 8, 8, 8, 8, 8, 8, 8, 8, 8, 8, 8, 8, 8, 8, 8, 8, 8, 8, 8, 8, 8, 8, 8, 8, 8, 8, 8, 8, 8, 8, 8, 8]⟩ : ByteArray) (IntKind.u8.wrap x0)))))))] ?_
        refine bH ?_
        obtain rfl := oI h0
        exact aF (Q_r hO)
      refine aX aB 2 [] [(14, (aE (decide ((256 : Int) ≤ x0))))] ?_
      refine bJ h0 (fun h0 => ?_) (fun h0 => ?_)
      · refine aO ?_
        refine aS aB 3 ?_
        obtain ⟨c3, h0⟩ := bA h0
        refine qK [0 ≤ (8 : Int)] ⟨c3, trivial⟩ ?_
        refine bB [(0, (cQ .u64 (Int.fdiv x0 (2 ^ (min (Int.toNat (8 : Int)) 64))))), (2, (eI n2))] ?_
        refine aS aB 3 ?_
        refine aZ ?_
        exact aF (aH (⟨rfl, _, _, .eq (by kernel_rfl), hO, h0⟩))
      refine bM ?_
      exact aF (aH (⟨rfl, _, _, .eq (by kernel_rfl), hO, h0⟩))
    refine aX aB 2 [] [(8, (aE (decide ((65536 : Int) ≤ x0))))] ?_
    refine bJ h0 (fun h0 => ?_) (fun h0 => ?_)
    · refine aO ?_
      refine aS aB 3 ?_
      obtain ⟨c5, h0⟩ := bA h0
      refine qK [0 ≤ (16 : Int)] ⟨c5, trivial⟩ ?_
      refine bB [(0, (cQ .u64 (Int.fdiv x0 (2 ^ (min (Int.toNat (16 : Int)) 64))))), (2, (eI n2))] ?_
      refine aS aB 3 ?_
      refine aZ ?_
      exact aF (aH (⟨rfl, _, _, .eq (by kernel_rfl), hO, h0⟩))
    refine bM ?_
    exact aF (aH (⟨rfl, _, _, .eq (by kernel_rfl), hO, h0⟩))
  refine aX aB 2 [] [(4, (aE (decide ((4294967296 : Int) ≤ x0))))] ?_
  refine bJ h0 (fun h0 => ?_) (fun h0 => ?_)
  · refine aO ?_
    refine aS aB 3 ?_
    obtain ⟨c7, h0⟩ := bA h0
    refine qK [0 ≤ (32 : Int)] ⟨c7, trivial⟩ ?_
    refine bB [(0, (cQ .u64 (Int.fdiv x0 (2 ^ (min (Int.toNat (32 : Int)) 64)))))] ?_
    refine aS aB 1 ?_
    refine aZ ?_
    exact aF (aH (⟨rfl, _, _, .eq (by kernel_rfl), hO, h0⟩))
  refine bM ?_
  exact aF (aH (⟨rfl, _, _, .eq (by kernel_rfl), hO, h0⟩))

theorem DX (x0 : Int) (r : Int) (h0 : kV x0 = some r) : dF Try.prog 66 [(cQ .u64 x0)] (eI r) := by
  intro H0
  refine cY Try.func66 ?_
  have hO := aM.start H0
  unfold kV at h0
  refine aX aB 1 [] [] ?_
  refine aO ?_
  refine mJ (false) (fun hc1 => ?_) (fun hc1 => ?_)
  · cases hc1
  · refine bM ?_
    refine aF (aH ?_)
    refine aO ?_
    refine aS aB 3 ?_
    refine bE 1 ?_
    obtain ⟨x2, hx3, h0⟩ := aW h0
    refine cW (KC x0 _ hx3) hO ?_
    intro H hO
    refine aZ ?_
    refine bB [(2, (eI x2))] ?_
    refine bH ?_
    obtain rfl := oI h0
    exact aF (Q_r hO)

theorem gC (x0 : Int) (y1 : Int) (r : Bool) (h0 : dA x0 y1 = some r) : dF Try.prog 54 [(eI x0), (eI y1)] (aE r) := by
  intro H0
  refine cY Try.func54 ?_
  have hO := aM.start H0
  unfold dA at h0
  refine aX aB 1 [] [] ?_
  refine aO ?_
  refine aS aB 13 ?_
  refine bE 1 ?_
  obtain ⟨x1, hx2, h0⟩ := aW h0
  refine cW (vB x0 _ hx2) hO ?_
  intro H hO
  refine bE 4 ?_
  obtain ⟨x4, hx5, h0⟩ := aW h0
  refine mO [(7, true)] 71 [(eI y1)] (aE x4) x1 (by kernel_rfl) (by kernel_rfl) (by kernel_rfl) (fun hb6 => (vB y1 _ (jP hx5 hb6))) hO ?_
  intro H hO
  refine aZ ?_
  refine bB [(4, (aE ((x1 && (!x4)) || (decide (x0 < y1)))))] ?_
  refine bH ?_
  obtain rfl := oI h0
  exact aF (Q_r hO)

theorem xM (lo0p : Nat) (aA : (List Int)) (a1 : Int) (b2 : Int) (r : List Int) (h0 : iE aA a1 b2 = some r) : qP Try.prog 75 lo0p 1 (List.map (eI) aA) (List.map (eI) r) [(.msl 1 lo0p 0 (List.length aA)), (eI a1), (eI b2)] (.tup []) := by
  intro H0 hl0
  refine cY Try.func75 ?_
  have hO := aM.sH hl0
  clear hl0
  obtain ⟨N0, hN0⟩ : ∃ n, n = List.length aA := ⟨_, rfl⟩
  have hN : List.length aA = N0 := hN0.symm
  unfold iE at h0
  refine aX aB 3 [] [(6, (eI (wR (a1 + (1 : Int)))))] ?_
  refine bW 0 ?_
  refine eE [(0, (.msl 1 lo0p 0 (List.length aA))), (1, (eI a1)), (2, (eI b2)), (6, (eI (wR (a1 + (1 : Int)))))] ?_
  refine eH (fun T H => ∃ aA : List Int, ∃ i6 : Int, Has T [(0, (.msl 1 lo0p 0 (List.length aA))), (1, (eI a1)), (2, (eI b2)), (6, (eI i6))] ∧ aM ⟨H0, [lo0p], []⟩ H [(lo0p, 1, List.map (eI) aA)] ∧ List.length aA = N0 ∧ jW aA a1 b2 i6 = some r) ?_ ⟨aA, wR (a1 + (1 : Int)), .eq (by kernel_rfl), hO, hN, h0⟩
  clear hO hN h0
  rintro T H ⟨aA, i6, hT, hO, hN, h0⟩
  refine bF hT ?_
  clear hT
  unfold jW at h0
  obtain ⟨rr0, hl0, h0⟩ := aW h0
  refine dM (by kernel_rfl) (fun (s : List Int × Int) T H => Has T [(0, (.msl 1 lo0p 0 (List.length s.1))), (1, (eI a1)), (2, (eI b2)), (6, (eI s.2))] ∧ aM ⟨H0, [lo0p], []⟩ H [(lo0p, 1, List.map (eI) s.1)] ∧ List.length s.1 = N0) hl0 ⟨.eq (by kernel_rfl), hO, hN⟩ ?_
  clear hO hN
  rintro k0 s out1 T H ⟨hT, hO, hN⟩ h1 ho0
  obtain ⟨aA, i6⟩ := s
  replace h1 : dR a1 b2 aA i6 = some out1 := h1
  try dsimp only at hT
  refine bF hT ?_
  clear hT
  unfold dR at h1
  refine aO ?_
  refine aX aB 3 [] [(12, (aE (decide (i6 < b2))))] ?_
  refine bJ h1 (fun h1 => ?_) (fun h1 => ?_)
  · refine bM ?_
    refine bB [(0, (.msl 1 lo0p 0 (List.length aA))), (1, (eI a1)), (2, (eI b2)), (6, (eI i6))] ?_
    refine eV (fun T H => ∃ aA : List Int, Has T [(0, (.msl 1 lo0p 0 (List.length aA))), (1, (eI a1)), (2, (eI b2)), (6, (eI i6))] ∧ aM ⟨H0, [lo0p], []⟩ H [(lo0p, 1, List.map (eI) aA)] ∧ List.length aA = N0 ∧ hY aA a1 b2 i6 = some out1) ?_ ?_
    · clear hO hN h1
      rintro T H ⟨aA, hT, hO, hN, h1⟩
      refine bF hT ?_
      clear hT
      unfold hY at h1
      refine aS aB 3 ?_
      refine aZ ?_
      exact aF (aH (⟨rfl, _, (oI h1).symm, .eq (by kernel_rfl), hO, hN⟩))
    refine bW 1 ?_
    refine aX aB 2 [] [(7, (eI i6))] ?_
    refine bW 2 ?_
    refine eE [(0, (.msl 1 lo0p 0 (List.length aA))), (1, (eI a1)), (2, (eI b2)), (6, (eI i6)), (7, (eI i6))] ?_
    refine eH (fun T H => ∃ aA : List Int, ∃ j7 : Int, Has T [(0, (.msl 1 lo0p 0 (List.length aA))), (1, (eI a1)), (2, (eI b2)), (6, (eI i6)), (7, (eI j7))] ∧ aM ⟨H0, [lo0p], []⟩ H [(lo0p, 1, List.map (eI) aA)] ∧ List.length aA = N0 ∧ jU aA a1 b2 i6 j7 = some out1) ?_ ⟨aA, i6, .eq (by kernel_rfl), hO, hN, h1⟩
    clear hO hN h1
    rintro T H ⟨aA, j7, hT, hO, hN, h1⟩
    refine bF hT ?_
    clear hT
    unfold jU at h1
    obtain ⟨rr1, hl1, h1⟩ := aW h1
    refine dM (by kernel_rfl) (fun (s : List Int × Int) T H => Has T [(0, (.msl 1 lo0p 0 (List.length s.1))), (1, (eI a1)), (2, (eI b2)), (6, (eI i6)), (7, (eI s.2))] ∧ aM ⟨H0, [lo0p], []⟩ H [(lo0p, 1, List.map (eI) s.1)] ∧ List.length s.1 = N0) hl1 ⟨.eq (by kernel_rfl), hO, hN⟩ ?_
    clear hO hN
    rintro k1 s out2 T H ⟨hT, hO, hN⟩ h2 ho1
    obtain ⟨aA, j7⟩ := s
    replace h2 : fH a1 b2 i6 aA j7 = some out2 := h2
    try dsimp only at hT
    refine bF hT ?_
    clear hT
    unfold fH at h2
    refine aO ?_
    refine aO ?_
    obtain ⟨c2, h2⟩ := bA h2
    obtain ⟨c3, h2⟩ := bA h2
    obtain ⟨x4, hx5, h2⟩ := aW h2
    refine fX (fZ []) aB 15 ?_
    refine rL (K := fun T H => Has (lift T) [(0, (.msl 1 lo0p 0 (List.length aA))), (1, (eI a1)), (2, (eI b2)), (6, (eI i6)), (7, (eI j7)), (30, (aE ((decide (a1 < j7)) && x4)))] ∧ aM ⟨H0, [lo0p], []⟩ H [(lo0p, 1, List.map (eI) aA)]) ?_ ?_
    · refine kE 4 ?_
      refine oR (t := 19) (e := decide (a1 < j7)) (by kernel_rfl) (fun hg6 => ?_) (fun hg6 => ?_)
      · refine cJ 7 [0 ≤ j7 ∧ j7 < (lN aA)] ⟨(c2 hg6), trivial⟩ ?_
        refine iZ 0 lo0p 1 (0 + Int.toNat j7) (eI (gD aA j7)) (eI (gD aA j7)) (List.map (eI) aA) (by kernel_rfl) (by kernel_rfl) (by kernel_rfl) hO (by kernel_rfl) (bZ (c2 hg6)) ?_
        refine cJ 12 [0 ≤ (wR (j7 - (1 : Int))) ∧ (wR (j7 - (1 : Int))) < (lN aA)] ⟨(c3 hg6), trivial⟩ ?_
        refine iZ 0 lo0p 1 (0 + Int.toNat (wR (j7 - (1 : Int)))) (eI (gD aA (wR (j7 - (1 : Int))))) (eI (gD aA (wR (j7 - (1 : Int))))) (List.map (eI) aA) (by kernel_rfl) (by kernel_rfl) (by kernel_rfl) hO (by kernel_rfl) (bZ (c3 hg6)) ?_
        refine pV 54 [(eI (gD aA j7)), (eI (gD aA (wR (j7 - (1 : Int)))))] (aE x4) (by kernel_rfl) (by kernel_rfl) (gC (gD aA j7) (gD aA (wR (j7 - (1 : Int)))) _ (jP hx5 hg6)) hO ?_
        intro H hO
        refine kJ ?_
        exact ⟨⟨[(0, (.msl 1 lo0p 0 (List.length aA))), (1, (eI a1)), (2, (eI b2)), (6, (eI i6)), (7, (eI j7)), (30, (aE x4))], by kernel_rfl, rfl, ⟨aQ.refl _, aQ.refl _, aQ.refl _, aQ.refl _, aQ.refl _, aQ.eq (congrArg aE (nU hg6 rfl).symm), trivial⟩⟩, hO⟩
      refine kJ ?_
      exact ⟨⟨[(0, (.msl 1 lo0p 0 (List.length aA))), (1, (eI a1)), (2, (eI b2)), (6, (eI i6)), (7, (eI j7)), (30, (aE false))], by kernel_rfl, rfl, ⟨aQ.refl _, aQ.refl _, aQ.refl _, aQ.refl _, aQ.refl _, aQ.eq (congrArg aE (nU hg6 rfl).symm), trivial⟩⟩, hO⟩
    · rintro T H ⟨hT, hO⟩
      refine dH hT ?_
      clear hT
      refine aF (aH ?_)
      refine bJ h2 (fun h2 => ?_) (fun h2 => ?_)
      · refine bM ?_
        refine bB [(0, (.msl 1 lo0p 0 (List.length aA))), (1, (eI a1)), (2, (eI b2)), (6, (eI i6)), (7, (eI j7))] ?_
        refine aO ?_
        refine bW 3 ?_
        refine fX (fZ []) aB 18 ?_
        obtain ⟨c8, h2⟩ := bA h2
        refine cJ 9 [0 ≤ (wR (j7 - (1 : Int))) ∧ (wR (j7 - (1 : Int))) < (lN aA)] ⟨c8, trivial⟩ ?_
        refine fU 0 lo0p 1 (0 + Int.toNat (wR (j7 - (1 : Int)))) (eI (gD aA (wR (j7 - (1 : Int))))) (eI (gD aA (wR (j7 - (1 : Int))))) (List.map (eI) aA) hO (bZ c8) ?_
        obtain ⟨c9, h2⟩ := bA h2
        refine cJ 13 [0 ≤ j7 ∧ j7 < (lN aA)] ⟨c9, trivial⟩ ?_
        refine fU 0 lo0p 1 (0 + Int.toNat j7) (eI (gD aA j7)) (eI (gD aA j7)) (List.map (eI) aA) hO (bZ c9) ?_
        obtain ⟨c10, h2⟩ := bA h2
        refine cJ 15 [0 ≤ j7 ∧ j7 < (lN aA)] ⟨c10, trivial⟩ ?_
        refine kS 0 lo0p 1 (0 + Int.toNat j7) (eI (gD aA j7)) (eI (gD aA (wR (j7 - (1 : Int))))) (List.map (eI) aA) [(lo0p, 1, List.map (eI) (List.set aA (Int.toNat j7) (gD aA (wR (j7 - (1 : Int))))))] hO (bZ c10) (by simp only [List.set, iH]) ?_
        intro H hO
        replace hN : List.length (List.set aA (Int.toNat j7) (gD aA (wR (j7 - (1 : Int))))) = N0 := by simpa using hN
        obtain ⟨c11, h2⟩ := bA h2
        refine cJ 17 [0 ≤ (wR (j7 - (1 : Int))) ∧ (wR (j7 - (1 : Int))) < (lN aA)] ⟨c11, trivial⟩ ?_
        refine kS 0 lo0p 1 (0 + Int.toNat (wR (j7 - (1 : Int)))) (eI (gD (List.set aA (Int.toNat j7) (gD aA (wR (j7 - (1 : Int))))) (wR (j7 - (1 : Int))))) (eI (gD aA j7)) (List.map (eI) (List.set aA (Int.toNat j7) (gD aA (wR (j7 - (1 : Int)))))) [(lo0p, 1, List.map (eI) (List.set (List.set aA (Int.toNat j7) (gD aA (wR (j7 - (1 : Int))))) (Int.toNat (wR (j7 - (1 : Int)))) (gD aA j7)))] hO (nY c11 (by simp [])) (by simp only [List.set, iH]) ?_
        intro H hO
        replace hN : List.length (List.set (List.set aA (Int.toNat j7) (gD aA (wR (j7 - (1 : Int))))) (Int.toNat (wR (j7 - (1 : Int)))) (gD aA j7)) = N0 := by simpa using hN
        refine nE (by kernel_rfl) ?_
        refine dH (l := [(0, (.msl 1 lo0p 0 (List.length (List.set (List.set aA (Int.toNat j7) (gD aA (wR (j7 - (1 : Int))))) (Int.toNat (wR (j7 - (1 : Int)))) (gD aA j7))))), (1, (eI a1)), (2, (eI b2)), (6, (eI i6)), (7, (eI j7))]) ⟨[(0, (.msl 1 lo0p 0 (List.length aA))), (1, (eI a1)), (2, (eI b2)), (6, (eI i6)), (7, (eI j7))], by kernel_rfl, rfl, ⟨aQ.eq (by simp []), aQ.refl _, aQ.refl _, aQ.refl _, aQ.refl _, trivial⟩⟩ ?_
        refine aF (aV (aH (?_)))
        refine aS aB 3 ?_
        refine aZ ?_
        exact aF (aH (⟨rfl, _, (oI h2).symm, .eq (by kernel_rfl), hO, hN⟩))
      refine gG 2 ?_
      obtain rfl := oI h2
      obtain rfl : _ = rr1 := ho1
      replace h1 : hY aA a1 b2 i6 = some out1 := h1
      exact aF (aY (aY (bU (aV (aH (⟨rfl, _, .eq (by kernel_rfl), hO, hN, h1⟩))))))
  refine gG 0 ?_
  obtain rfl := oI h1
  obtain rfl : _ = rr0 := ho0
  replace h0 : some aA = some r := h0
  obtain rfl := oI h0
  exact aF (aY (aY (bU (xY (x := (.tup [])) (by kernel_rfl) (aQ.refl _) ⟨rfl, hO.ext, hO.at 0 (by kernel_rfl), by first | rfl | (simp only [List.length_map]; exact hN.trans hN0)⟩))))

theorem sW (lo0p : Nat) (aA : (List Int)) (lo1 : Int) (hi2 : Int) (bL : Int) (r : List Int) (h0 : gE aA lo1 hi2 bL = some r) : qP Try.prog 93 lo0p 1 (List.map (eI) aA) (List.map (eI) r) [(.msl 1 lo0p 0 (List.length aA)), (eI lo1), (eI hi2), (eI bL)] (.tup []) := by
  intro H0 hl0
  refine cY Try.func93 ?_
  have hO := aM.sH hl0
  clear hl0
  obtain ⟨N0, hN0⟩ : ∃ n, n = List.length aA := ⟨_, rfl⟩
  have hN : List.length aA = N0 := hN0.symm
  unfold gE at h0
  refine aX aB 2 [1] [(8, (eI lo1))] ?_
  refine bW 0 ?_
  refine eE [(0, (.msl 1 lo0p 0 (List.length aA))), (2, (eI hi2)), (3, (eI bL)), (8, (eI lo1))] ?_
  refine eH (fun T H => ∃ aA : List Int, ∃ cH : Int, Has T [(0, (.msl 1 lo0p 0 (List.length aA))), (2, (eI hi2)), (3, (eI bL)), (8, (eI cH))] ∧ aM ⟨H0, [lo0p], []⟩ H [(lo0p, 1, List.map (eI) aA)] ∧ List.length aA = N0 ∧ lJ aA hi2 bL cH = some r) ?_ ⟨aA, lo1, .eq (by kernel_rfl), hO, hN, h0⟩
  clear hO hN h0
  rintro T H ⟨aA, cH, hT, hO, hN, h0⟩
  refine bF hT ?_
  clear hT
  unfold lJ at h0
  obtain ⟨rr0, hl0, h0⟩ := aW h0
  refine dM (by kernel_rfl) (fun (s : List Int × Int) T H => Has T [(0, (.msl 1 lo0p 0 (List.length s.1))), (2, (eI hi2)), (3, (eI bL)), (8, (eI s.2))] ∧ aM ⟨H0, [lo0p], []⟩ H [(lo0p, 1, List.map (eI) s.1)] ∧ List.length s.1 = N0) hl0 ⟨.eq (by kernel_rfl), hO, hN⟩ ?_
  clear hO hN
  rintro k0 s out1 T H ⟨hT, hO, hN⟩ h1 ho0
  obtain ⟨aA, cH⟩ := s
  replace h1 : dN hi2 bL aA cH = some out1 := h1
  try dsimp only at hT
  refine bF hT ?_
  clear hT
  unfold dN at h1
  refine bW 1 ?_
  refine aX aB 4 [] [(9, (eI (wR ((wR ((2 : Int) * cH)) + (1 : Int)))))] ?_
  refine aO ?_
  refine aX aB 3 [] [(16, (aE (decide (hi2 ≤ (wR ((wR ((2 : Int) * cH)) + (1 : Int)))))))] ?_
  refine bJ h1 (fun h1 => ?_) (fun h1 => ?_)
  · refine gG 0 ?_
    obtain rfl := oI h1
    obtain rfl : _ = rr0 := ho0
    replace h0 : some aA = some r := h0
    obtain rfl := oI h0
    exact aF (aY (rS (by kernel_rfl) (aY (bU (xY (x := (.tup [])) (by kernel_rfl) (aQ.refl _) ⟨rfl, hO.ext, hO.at 0 (by kernel_rfl), by first | rfl | (simp only [List.length_map]; exact hN.trans hN0)⟩)))))
  refine bM ?_
  refine bB [(0, (.msl 1 lo0p 0 (List.length aA))), (2, (eI hi2)), (3, (eI bL)), (8, (eI cH)), (9, (eI (wR ((wR ((2 : Int) * cH)) + (1 : Int)))))] ?_
  refine eV (fun T H => ∃ aA : List Int, ∃ eD : Int, Has T [(0, (.msl 1 lo0p 0 (List.length aA))), (2, (eI hi2)), (3, (eI bL)), (8, (eI cH)), (9, (eI eD))] ∧ aM ⟨H0, [lo0p], []⟩ H [(lo0p, 1, List.map (eI) aA)] ∧ List.length aA = N0 ∧ iB aA hi2 bL cH eD = some out1) ?_ ?_
  · clear hO hN h1
    rintro T H ⟨aA, eD, hT, hO, hN, h1⟩
    refine bF hT ?_
    clear hT
    unfold iB at h1
    refine aO ?_
    refine aO ?_
    refine fX (fZ [51]) aB 14 ?_
    obtain ⟨c2, h1⟩ := bA h1
    refine cJ 5 [0 ≤ (wR (bL + cH)) ∧ (wR (bL + cH)) < (lN aA)] ⟨c2, trivial⟩ ?_
    refine fU 0 lo0p 1 (0 + Int.toNat (wR (bL + cH))) (eI (gD aA (wR (bL + cH)))) (eI (gD aA (wR (bL + cH)))) (List.map (eI) aA) hO (bZ c2) ?_
    obtain ⟨c3, h1⟩ := bA h1
    refine cJ 11 [0 ≤ (wR (bL + eD)) ∧ (wR (bL + eD)) < (lN aA)] ⟨c3, trivial⟩ ?_
    refine fU 0 lo0p 1 (0 + Int.toNat (wR (bL + eD))) (eI (gD aA (wR (bL + eD)))) (eI (gD aA (wR (bL + eD)))) (List.map (eI) aA) hO (bZ c3) ?_
    obtain ⟨x4, hx5, h1⟩ := aW h1
    refine zW (gC (gD aA (wR (bL + cH))) (gD aA (wR (bL + eD))) _ hx5) hO ?_
    intro H hO
    refine kJ ?_
    refine bO [] [(52, (aE (!x4)))] ?_
    refine bJ h1 (fun h1 => ?_) (fun h1 => ?_)
    · refine bH ?_
      obtain rfl := oI h1
      obtain rfl : _ = rr0 := ho0
      replace h0 : some aA = some r := h0
      obtain rfl := oI h0
      exact aF (aU (bD (aU (bD (jV (x := (.tup [])) (by kernel_rfl) (aQ.refl _) ⟨rfl, hO.ext, hO.at 0 (by kernel_rfl), by first | rfl | (simp only [List.length_map]; exact hN.trans hN0)⟩)))))
    refine bM ?_
    refine bB [(0, (.msl 1 lo0p 0 (List.length aA))), (2, (eI hi2)), (3, (eI bL)), (8, (eI cH)), (9, (eI eD))] ?_
    refine aO ?_
    refine fX (fZ []) aB 24 ?_
    obtain ⟨c8, h1⟩ := bA h1
    refine cJ 13 [0 ≤ (wR (bL + eD)) ∧ (wR (bL + eD)) < (lN aA)] ⟨c8, trivial⟩ ?_
    refine fU 0 lo0p 1 (0 + Int.toNat (wR (bL + eD))) (eI (gD aA (wR (bL + eD)))) (eI (gD aA (wR (bL + eD)))) (List.map (eI) aA) hO (bZ c8) ?_
    obtain ⟨c9, h1⟩ := bA h1
    refine cJ 19 [0 ≤ (wR (bL + cH)) ∧ (wR (bL + cH)) < (lN aA)] ⟨c9, trivial⟩ ?_
    refine fU 0 lo0p 1 (0 + Int.toNat (wR (bL + cH))) (eI (gD aA (wR (bL + cH)))) (eI (gD aA (wR (bL + cH)))) (List.map (eI) aA) hO (bZ c9) ?_
    obtain ⟨c10, h1⟩ := bA h1
    refine cJ 21 [0 ≤ (wR (bL + cH)) ∧ (wR (bL + cH)) < (lN aA)] ⟨c10, trivial⟩ ?_
    refine kS 0 lo0p 1 (0 + Int.toNat (wR (bL + cH))) (eI (gD aA (wR (bL + cH)))) (eI (gD aA (wR (bL + eD)))) (List.map (eI) aA) [(lo0p, 1, List.map (eI) (List.set aA (Int.toNat (wR (bL + cH))) (gD aA (wR (bL + eD)))))] hO (bZ c10) (by simp only [List.set, iH]) ?_
    intro H hO
    replace hN : List.length (List.set aA (Int.toNat (wR (bL + cH))) (gD aA (wR (bL + eD)))) = N0 := by simpa using hN
    obtain ⟨c11, h1⟩ := bA h1
    refine cJ 23 [0 ≤ (wR (bL + eD)) ∧ (wR (bL + eD)) < (lN aA)] ⟨c11, trivial⟩ ?_
    refine kS 0 lo0p 1 (0 + Int.toNat (wR (bL + eD))) (eI (gD (List.set aA (Int.toNat (wR (bL + cH))) (gD aA (wR (bL + eD)))) (wR (bL + eD)))) (eI (gD aA (wR (bL + cH)))) (List.map (eI) (List.set aA (Int.toNat (wR (bL + cH))) (gD aA (wR (bL + eD))))) [(lo0p, 1, List.map (eI) (List.set (List.set aA (Int.toNat (wR (bL + cH))) (gD aA (wR (bL + eD)))) (Int.toNat (wR (bL + eD))) (gD aA (wR (bL + cH)))))] hO (nY c11 (by simp [])) (by simp only [List.set, iH]) ?_
    intro H hO
    replace hN : List.length (List.set (List.set aA (Int.toNat (wR (bL + cH))) (gD aA (wR (bL + eD)))) (Int.toNat (wR (bL + eD))) (gD aA (wR (bL + cH)))) = N0 := by simpa using hN
    refine nE (by kernel_rfl) ?_
    refine dH (l := [(0, (.msl 1 lo0p 0 (List.length (List.set (List.set aA (Int.toNat (wR (bL + cH))) (gD aA (wR (bL + eD)))) (Int.toNat (wR (bL + eD))) (gD aA (wR (bL + cH))))))), (2, (eI hi2)), (3, (eI bL)), (9, (eI eD))]) ⟨[(0, (.msl 1 lo0p 0 (List.length aA))), (2, (eI hi2)), (3, (eI bL)), (9, (eI eD))], by kernel_rfl, rfl, ⟨aQ.eq (by simp []), aQ.refl _, aQ.refl _, aQ.refl _, trivial⟩⟩ ?_
    refine aF (aH (?_))
    refine aS aB 2 ?_
    refine aZ ?_
    exact aF (aV (aH (⟨rfl, _, (oI h1).symm, .eq (by kernel_rfl), hO, hN⟩)))
  refine aO ?_
  obtain ⟨c12, h1⟩ := bA h1
  obtain ⟨c13, h1⟩ := bA h1
  obtain ⟨x14, hx15, h1⟩ := aW h1
  refine fX (fZ []) aB 20 ?_
  refine rL (K := fun T H => Has (lift T) [(0, (.msl 1 lo0p 0 (List.length aA))), (2, (eI hi2)), (3, (eI bL)), (8, (eI cH)), (9, (eI (wR ((wR ((2 : Int) * cH)) + (1 : Int))))), (36, (aE ((decide ((wR ((wR ((wR ((2 : Int) * cH)) + (1 : Int))) + (1 : Int))) < hi2)) && x14)))] ∧ aM ⟨H0, [lo0p], []⟩ H [(lo0p, 1, List.map (eI) aA)]) ?_ ?_
  · refine kE 5 ?_
    refine oR (t := 21) (e := decide ((wR ((wR ((wR ((2 : Int) * cH)) + (1 : Int))) + (1 : Int))) < hi2)) (by kernel_rfl) (fun hg16 => ?_) (fun hg16 => ?_)
    · refine cJ 10 [0 ≤ (wR (bL + (wR ((wR ((2 : Int) * cH)) + (1 : Int))))) ∧ (wR (bL + (wR ((wR ((2 : Int) * cH)) + (1 : Int))))) < (lN aA)] ⟨(c12 hg16), trivial⟩ ?_
      refine iZ 0 lo0p 1 (0 + Int.toNat (wR (bL + (wR ((wR ((2 : Int) * cH)) + (1 : Int)))))) (eI (gD aA (wR (bL + (wR ((wR ((2 : Int) * cH)) + (1 : Int))))))) (eI (gD aA (wR (bL + (wR ((wR ((2 : Int) * cH)) + (1 : Int))))))) (List.map (eI) aA) (by kernel_rfl) (by kernel_rfl) (by kernel_rfl) hO (by kernel_rfl) (bZ (c12 hg16)) ?_
      refine cJ 17 [0 ≤ (wR ((wR (bL + (wR ((wR ((2 : Int) * cH)) + (1 : Int))))) + (1 : Int))) ∧ (wR ((wR (bL + (wR ((wR ((2 : Int) * cH)) + (1 : Int))))) + (1 : Int))) < (lN aA)] ⟨(c13 hg16), trivial⟩ ?_
      refine iZ 0 lo0p 1 (0 + Int.toNat (wR ((wR (bL + (wR ((wR ((2 : Int) * cH)) + (1 : Int))))) + (1 : Int)))) (eI (gD aA (wR ((wR (bL + (wR ((wR ((2 : Int) * cH)) + (1 : Int))))) + (1 : Int))))) (eI (gD aA (wR ((wR (bL + (wR ((wR ((2 : Int) * cH)) + (1 : Int))))) + (1 : Int))))) (List.map (eI) aA) (by kernel_rfl) (by kernel_rfl) (by kernel_rfl) hO (by kernel_rfl) (bZ (c13 hg16)) ?_
      refine pV 54 [(eI (gD aA (wR (bL + (wR ((wR ((2 : Int) * cH)) + (1 : Int))))))), (eI (gD aA (wR ((wR (bL + (wR ((wR ((2 : Int) * cH)) + (1 : Int))))) + (1 : Int)))))] (aE x14) (by kernel_rfl) (by kernel_rfl) (gC (gD aA (wR (bL + (wR ((wR ((2 : Int) * cH)) + (1 : Int)))))) (gD aA (wR ((wR (bL + (wR ((wR ((2 : Int) * cH)) + (1 : Int))))) + (1 : Int)))) _ (jP hx15 hg16)) hO ?_
      intro H hO
      refine kJ ?_
      exact ⟨⟨[(0, (.msl 1 lo0p 0 (List.length aA))), (2, (eI hi2)), (3, (eI bL)), (8, (eI cH)), (9, (eI (wR ((wR ((2 : Int) * cH)) + (1 : Int))))), (36, (aE x14))], by kernel_rfl, rfl, ⟨aQ.refl _, aQ.refl _, aQ.refl _, aQ.refl _, aQ.refl _, aQ.eq (congrArg aE (nU hg16 rfl).symm), trivial⟩⟩, hO⟩
    refine kJ ?_
    exact ⟨⟨[(0, (.msl 1 lo0p 0 (List.length aA))), (2, (eI hi2)), (3, (eI bL)), (8, (eI cH)), (9, (eI (wR ((wR ((2 : Int) * cH)) + (1 : Int))))), (36, (aE false))], by kernel_rfl, rfl, ⟨aQ.refl _, aQ.refl _, aQ.refl _, aQ.refl _, aQ.refl _, aQ.eq (congrArg aE (nU hg16 rfl).symm), trivial⟩⟩, hO⟩
  · rintro T H ⟨hT, hO⟩
    refine dH hT ?_
    clear hT
    refine aF (aH ?_)
    refine bJ h1 (fun h1 => ?_) (fun h1 => ?_)
    · refine aS aB 3 ?_
      refine aZ ?_
      exact aF (aH (⟨rfl, _, _, .eq (by kernel_rfl), hO, hN, h1⟩))
    refine bM ?_
    exact aF (aH (⟨rfl, _, _, .eq (by kernel_rfl), hO, hN, h1⟩))

end Go.Abs
