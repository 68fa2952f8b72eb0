/- What the law WindowForgets stands on: the framework, the given functions as plain functions, their walks, and the plain laws; part 3. -/
import Derived.Test.YteecjdpicjpnfabWindowForgetsZ2
set_option linter.unusedSimpArgs false
set_option linter.unusedVariables false
namespace Go.Abs
open Go Go.RowKit Go.MapKept
variable {P : Program} {H : aU} {K : V → aU → Prop}
def aEB (P : Program) (f : FuncId) (args : List V) (M : Gs) (L : OL) (Post : V → Gs → OL → Prop) : Prop :=
  ∀ (F : Frame) (H : aU), aM ⟨F.h, F.e, M ++ F.g⟩ H L → mE P f args H fun x H' => ∃ M' L', Post x M' L' ∧ aM ⟨F.h, F.e, M' ++ F.g⟩ H' L'

theorem aM.aGf {H0 : aU} {E : List Nat} {M G : Gs} {L R : OL} (h : aM ⟨H0, E, M ++ G⟩ H (L ++ R)) : aM ⟨H0, E, M ++ (up R ++ G)⟩ H L := by
  have h1 : aM ⟨H0, E, up R ++ (M ++ G)⟩ H L := h.part
  exact h1.qH (by rw [← List.append_assoc, ← List.append_assoc]; exact List.Perm.append_right _ List.perm_append_comm)

theorem aM.aGn {H0 : aU} {E : List Nat} {M G : Gs} {L R : OL} (h : aM ⟨H0, E, M ++ (up R ++ G)⟩ H L) : aM ⟨H0, E, M ++ G⟩ H (L ++ R) := by
  have h1 : aM ⟨H0, E, up R ++ (M ++ G)⟩ H L := h.qH (by rw [← List.append_assoc, ← List.append_assoc]; exact List.Perm.append_right _ List.perm_append_comm)
  exact aM.glue (F := ⟨H0, E, M ++ G⟩) h1

theorem aGv {tt : TT} {N : Nat} {T : Env} {ops : Array Oper} {K : Env → aU → Prop} {i n : Nat} {H0 : aU} {E : List Nat} {G : Gs} {L0 L : OL} {Post : V → Gs → OL → Prop} {fid : Nat} {as0 : List V} (M : Gs) (R : OL) (ix : List Nat) (hc : aEB P fid as0 M L Post) (hO : aM ⟨H0, E, M ++ G⟩ H L0)
    (h : ∀ x M' L' H', Post x M' L' → aM ⟨H0, E, M' ++ G⟩ H' (L' ++ R) → RWs P tt N ops (aL (i + 1) n) (T.bR (cO ops i) ([], x)) H' K) (hnd : ix.Nodup := by decide) (hp : ix.map (fun i => L0[i]?) = (L ++ R).map some := by kernel_rfl)
    (hs : aL i n = i :: aL (i + 1) n := by kernel_rfl) (hd : nT N ops T i = some (fid, as0) := by kernel_rfl) : RWs P tt N ops (aL i n) T H K :=
  LC hs hd (hc ⟨H0, E, up R ++ G⟩ H (hO.pick ix hnd hp).aGf) fun _ H' ⟨M', L', hP, hO'⟩ => h _ M' L' H' hP hO'.aGn

section ends
variable {fn : Func} {T : Env} {H : aU} {H0 : aU} {E : List Nat} {G M : Gs} {Post : V → Gs → OL → Prop} {x : V} {L : OL}
end ends
end Go.Abs
namespace Go.Abs
open Go Go.RowKit
variable {P : Program} {tt : TT} {g : Gh} {w : World} {H : aU}
theorem aC2 {N : Nat} {c : Code} {l : List (Nat × V)} {ds : List Nat} {Q : Exit → Env → aU → List Nat → Prop} {fid : Nat} {ys cs : List V} {b0 l0 : Nat} {A0 : rT} {st0 : LoopState} {pe0 : Option Code} (h0 : H[l0]? = some (.raw (gQ b0 A0 st0 pe0)))
    (hk : c.kind = 9) (hf : cF (Env.ofL l) [] c.cnd = some (.fn (.func fid) ys cs)) {ps : Array Tmp} (hps : c.rps = ps)
    (h : ∀ b, mE P fid (ys ++ [yv b] ++ cs) (H ++ [.raw (gQ b ⟨N, l, ps, c.asg, c.b⟩ .ready none)]) (fun _ H' => ∃ st pe, H'[H.length]? = some (.raw (gQ b ⟨N, l, ps, c.asg, c.b⟩ st pe)) ∧ st ≠ .busy ∧
      (match pe with
       | none => Cl N Q .normal (Env.ofL l) (H'.set H.length .dead) ds
       | some c' => AWP P (some b0) N c' (Env.ofL l) (H'.set H.length .dead) ds Q))) : AWP P (some b0) N c (Env.ofL l) H ds Q := by
  cases c with
  | rangeFunc fo ps' asg body =>
    simp only [Code.rps] at hps
    subst hps
    simp only [Code.cnd] at hf
    simp only [Code.asg, Code.b] at h
    intro g w a R hg hr
    refine wpIn_rangeFunc ?_
    intro fn _
    obtain ⟨o0, p1, p2, pb, r0, rfl, _⟩ := hg.sr.raw l0 _ h0
    rw [pb] at p1
    obtain ⟨rec, hrec⟩ : ∃ rec : Loop, rec = { state := .ready, pending := none, fn, tmps := a.tmps, params := ps', assign := asg, body, defers := r0.defers } := ⟨_, rfl⟩
    have n2 := hg.sr.EO (.loop rec) rfl (gQ w.heap.size ⟨N, l, ps', asg, body⟩ .ready none) ⟨rfl, rec, rfl, by rw [hrec], by rw [hrec], by rw [hrec], by rw [hrec], by rw [hrec], by rw [hrec]; exact hg.sz, by
      have ht : rec.tmps = a.tmps := by rw [hrec]
      rw [ht]
      exact hg.tr.CL ((hg.sr.EO (.loop rec) rfl ⟨fun _ _ _ _ => True, fun _ _ => trivial⟩ trivial).2.toExt0)⟩
    obtain ⟨s2, e2⟩ := n2
    have henter : (Instr.enterLoop fn a.tmps ps' asg body (FR (some b0)).round).run P w = .ok (w.heap.size, []) (w.alloc (.loop rec)) := by
      rw [hrec]; exact run_enterLoop_inner p1 fn a.tmps ps' asg body
    obtain ⟨fs, cap, hfv, l1, l2, g1', g2'⟩ := (cH (hg.tr.CL e2.toExt0) (a := a) (by intro p hp; simp at hp) hf).fnE
    obtain ⟨hent, hcalls⟩ := h w.heap.size
    have hargs : (ys ++ [yv w.heap.size] ++ cs).length = (fs ++ #[Value.func (.yield w.heap.size) #[] #[]] ++ cap).size := by simp [l1, l2]; omega
    refine ⟨w.heap.size, [], w.alloc (.loop rec), ⟨.fn (.func fid) cap, fs ++ #[Value.func (.yield w.heap.size) #[] #[]]⟩, w.alloc (.loop rec), fid, fs ++ #[Value.func (.yield w.heap.size) #[] #[]] ++ cap, w.alloc (.loop rec), henter, ?_, fun _ _ => trivial, ?_, fun h => by simp [FR, Fence.wide] at h, ?_⟩
    · have hm : Array.map a.eval #[Operand.const (Value.func (.yield w.heap.size) #[] #[])] = #[Value.func (.yield w.heap.size) #[] #[]] := by
        simp [Act.eval]
      simp only [rangeCall, resolve, hfv, Deferred.ofValue, Sem.run_bind, Sem.run_pure, Result.andThen, hm]
    · simp only [invoke, hent]
    · refine IG ?_
      obtain ⟨l4, g4⟩ := xR (xs := ys) (ys := [yv w.heap.size]) (as0 := fs) (bs := #[Value.func (.yield w.heap.size) #[] #[]]) l1 rfl g1' (fun i x y hx hy => by
        cases i with
        | zero => simp at hx hy; subst hx; subst hy; exact .lit _ rfl
        | succ i => simp at hx)
      obtain ⟨l5, g5⟩ := xR l4 l2 g4 g2'
      refine (hcalls _ _ _ s2 l5 g5).mono ?_
      rintro e w3 ⟨v, r, g3, H3, rfl, _, s3, x3, st, pe, hL, hb, hq⟩
      obtain ⟨o3, q1, q2, qb, r3, rfl, z1, z2, z3, z4, z5, z6, z7⟩ := s3.raw _ _ hL
      rw [qb] at q1
      have s4 := s3.wB hL (.loop { r3 with state := .exhausted }) rfl ⟨fun _ _ _ _ => True, fun _ _ => trivial⟩ trivial
      rw [qb] at s4
      obtain ⟨s4, x4⟩ := s4
      have s5 := s4.kill H.length
      rw [List.set_set] at s5
      have hxx : Ext g w g3 (w3.putObj w.heap.size (.loop { r3 with state := .exhausted })) := (e2.trans x3).trans x4
      have hgood : Good N g3 (w3.putObj w.heap.size (.loop { r3 with state := .exhausted })) (Env.ofL l) (H3.set H.length .dead) ds { a with defers := [] ++ a.defers } := by
        refine ⟨s5, hg.tr.CL hxx.toExt0, ?_, ?_, hg.sz⟩
        · rw [List.nil_append, hg.df]
          apply List.map_congr_left
          intro l' hl'
          simp only [mkD, hxx.blk l' (hg.dl l' hl')]
        · intro l' hl'
          exact Nat.lt_of_lt_of_le (hg.dl l' hl') hxx.n
      refine ⟨_, _, run_endLoop q1 (by rw [z1]; exact hb), ?_⟩
      split
      · rename_i hp
        have hpe : pe = none := z2.symm.trans hp
        subst hpe
        obtain ⟨g5, T5, H5, hg5, hx5, hq5⟩ := hq _ _ _ hgood
        exact hr _ _ _ _ _ _ _ hq5 hg5 (hxx.trans hx5)
      · rename_i c' hp
        have hpe : pe = some c' := z2.symm.trans hp
        subst hpe
        exact hq _ _ _ _ hgood fun e T' H' ds' g' w' a' hq' hg' hx' => hr e T' H' ds' g' w' a' hq' hg' (hxx.trans hx')
  | region i o d => cases d <;> simp [Code.kind] at hk
  | _ => simp [Code.kind] at hk

theorem aDG {σ : Type} {N : Nat} {Q : Exit → Env → aU → List Nat → Prop} {ds : List Nat} {c : Code} {l : List (Nat × V)} {fid : Nat} {ys cs : List V} {H0 : aU} {E : List Nat} {G : Gs} {L : List (Nat × Nat × List V)} {b0 l0 : Nat} {A0 : rT} {st0 : LoopState} {pe0 : Option Code} (ps : Array Tmp) (I : rT → Nat → Nat → σ → Gs → Prop) (s0 s1 : σ) (v : V)
    (h0 : H[l0]? = some (.raw (gQ b0 A0 st0 pe0)))
    (hk : c.kind = 9) (hf : cF (Env.ofL l) [] c.cnd = some (.fn (.func fid) ys cs)) (hps : c.rps = ps) (hO : aM ⟨H0, E, G⟩ H L)
    (hi : ∀ b lL, I ⟨N, l, ps, c.asg, c.b⟩ b lL s0 ((lL, .raw (gQ b ⟨N, l, ps, c.asg, c.b⟩ .ready none)) :: (up L ++ G)))
    (hit : ∀ b lL, xN P fid (I ⟨N, l, ps, c.asg, c.b⟩ b lL) s0 (ys ++ [yv b] ++ cs) s1 v)
    (hend : ∀ b lL H' G', I ⟨N, l, ps, c.asg, c.b⟩ b lL s1 G' → aM ⟨H0, E, G'⟩ H' [] → ∃ st pe, H'[lL]? = some (.raw (gQ b ⟨N, l, ps, c.asg, c.b⟩ st pe)) ∧ st ≠ .busy ∧
      (match pe with
       | none => Cl N Q .normal (Env.ofL l) (H'.set lL .dead) ds
       | some c' => AWP P (some b0) N c' (Env.ofL l) (H'.set lL .dead) ds Q)) : AWP P (some b0) N c (Env.ofL l) H ds Q := by
  refine aC2 h0 hk hf hps fun b => ?_
  have o1 := hO.IE.QK (.raw (gQ b ⟨N, l, ps, c.asg, c.b⟩ .ready none))
  refine (hit b H.length _ _ (hi b H.length) o1.gok).mono ?_
  rintro x H' ⟨_, G', hi', hst⟩
  exact hend b H.length H' G' hi' (o1.PD hst)

theorem MF {H0 : aU} {E : List Nat} {lL : Nat} {s : dL} {G : Gs} {L : List (Nat × Nat × List V)} (h : aM ⟨H0, E, (lL, s) :: (up L ++ G)⟩ H []) :
    H[lL]? = some s ∧ aM ⟨H0, E, G⟩ (H.set lL .dead) L := by
  refine ⟨(h.gm 0 _ rfl).2, ?_⟩
  exact (h.nI .dead).nM.take

end Go.Abs
namespace Go.Abs
open Go Go.RowKit
theorem aFH {n : Nat} {el el' : Nat → V} (h : ∀ i, i < n → aR (el i) (el' i)) (hn : ∀ i, i < n → fQ (el' i) = true) : aR (.sl false n el) (.sl false n el') := by
  intro g w v hv
  cases hv with
  | sl0 z el a cap hz => exact .sl0 _ _ _ _ (by simp)
  | sl n el b o k cap c h1 h2 h3 h4 h5 h6 => exact .sl n _ b o k cap c (fun i hi => h i hi g w _ (h1 i hi)) h2 h3 h4 h5 hn

theorem aEX {α : Type} [Inhabited α] {e : α → V} {xs : List V} {l : List α} (h : pT xs (l.map e)) (hn : (l.map e).all fQ = true) : aR (fM xs) (eL e l) := by
  intro g w v hv
  refine YM g w v ?_
  have hlen := h.len
  cases xs with
  | nil =>
    cases l with
    | nil => exact hv
    | cons a s => simp at hlen
  | cons x r =>
    cases l with
    | nil => simp at hlen
    | cons a s =>
      have hl : r.length = (s.map e).length := by simpa using hlen
      show Rep g w (.sl false ((s.map e).length + 1) (fun i => (e a :: s.map e).getD i .bad)) v
      rw [← hl]
      refine aFH (fun i hi => ?_) (fun i hi => ?_) g w v hv
      · have h1 : i < (x :: r).length := by simpa using hi
        have h2 : i < (e a :: s.map e).length := by simp only [List.length_cons]; omega
        have h3 : (x :: r).getD i .bad = (x :: r)[i] := by simp only [List.getD_eq_getElem?_getD, List.getElem?_eq_getElem h1, Option.getD_some]
        have h4 : (e a :: s.map e).getD i .bad = (e a :: s.map e)[i] := by simp only [List.getD_eq_getElem?_getD, List.getElem?_eq_getElem h2, Option.getD_some]
        rw [h3, h4]
        exact h.get i _ _ (List.getElem?_eq_getElem h1) (List.getElem?_eq_getElem h2)
      · have h2 : i < (e a :: s.map e).length := by simp only [List.length_cons]; omega
        have h4 : (e a :: s.map e).getD i .bad = (e a :: s.map e)[i] := by simp only [List.getD_eq_getElem?_getD, List.getElem?_eq_getElem h2, Option.getD_some]
        rw [h4]
        exact List.all_eq_true.1 hn (e a :: s.map e)[i] (List.getElem_mem h2)

def sV : Option Nat → V
  | none => .lit (.pointer none)
  | some a => .lp a 0 0

section bundles
variable {β : Type} (sh : Nat → Nat → β → OL)
def pmM : List (Nat × Nat) → List (Int × β) → List (Int × Option Nat)
  | q :: los, p :: m => (p.1, some q.1) :: pmM los m
  | _, _ => []

def pmL : List (Nat × Nat) → List (Int × β) → OL
  | q :: los, p :: m => sh q.1 q.2 p.2 ++ pmL los m
  | _, _ => []

def pmG (lm : Nat) (los : List (Nat × Nat)) (m : List (Int × β)) : Gs := (lm, pV sV (pmM los m)) :: up (pmL sh los m)

variable {sh}
theorem RU : ∀ {los : List (Nat × Nat)} {m : List (Int × β)}, los.length = m.length → (pmM los m).length = m.length
  | [], [], _ => rfl
  | _ :: _, _ :: _, h => by simp only [pmM, List.length_cons]; rw [RU (by simpa using h)]
  | [], _ :: _, h => by simp at h
  | _ :: _, [], h => by simp at h

theorem aAF {k : Int} : ∀ {los : List (Nat × Nat)} {m : List (Int × β)}, gK m k = none → gK (pmM los m) k = none
  | [], [], _ => rfl
  | [], _ :: _, _ => rfl
  | _ :: _, [], _ => rfl
  | q :: los, p :: m, h => by
    rw [gK] at h
    split at h
    · cases h
    · rename_i hk
      rw [pmM, gK, if_neg hk, aAF h]

def Put (sh : Nat → Nat → β → OL) (m : List (Int × β)) (k : Int) (a : Nat) (MM : List (Int × Option Nat)) (R : OL) : Prop :=
  ∀ b' p', ∃ los', los'.length = (fE m k p').length ∧ MM = pmM los' (fE m k p') ∧ (sh a b' p' ++ R).Perm (pmL sh los' (fE m k p'))

theorem WC {k : Int} {x : β} : ∀ {los : List (Nat × Nat)} {m : List (Int × β)}, los.length = m.length → gK m k = some x →
    ∃ a b R, gK (pmM los m) k = some (some a) ∧ (pmL sh los m).Perm (sh a b x ++ R) ∧ Put sh m k a (pmM los m) R
  | [], [], _, h => by cases h
  | [], _ :: _, h, _ => by simp at h
  | _ :: _, [], h, _ => by simp at h
  | q :: los, p :: m, hl, h => by
    rw [gK] at h
    by_cases hk : p.1 = k
    · rw [if_pos hk] at h
      cases h
      refine ⟨q.1, q.2, pmL sh los m, by rw [pmM, gK, if_pos hk], List.Perm.refl _, fun b' p' => ⟨(q.1, b') :: los, ?_, ?_, ?_⟩⟩
      · simp only [fE, if_pos hk]; simpa using hl
      · simp only [fE, if_pos hk]; simp only [pmM, hk]
      · simp only [fE, if_pos hk, pmL]; exact List.Perm.refl _
    · rw [if_neg hk] at h
      obtain ⟨a, b, R, h1, h2, h3⟩ := WC (los := los) (m := m) (by simpa using hl) h
      refine ⟨a, b, sh q.1 q.2 p.2 ++ R, by rw [pmM, gK, if_neg hk, h1], ?_, fun b' p' => ?_⟩
      · rw [pmL]
        refine (List.Perm.append_left _ h2).trans ?_
        rw [← List.append_assoc, ← List.append_assoc]
        exact List.Perm.append_right _ List.perm_append_comm
      · obtain ⟨los', e1, e2, e3⟩ := h3 b' p'
        refine ⟨q :: los', ?_, ?_, ?_⟩
        · simp only [fE, if_neg hk, List.length_cons, e1]
        · simp only [fE, if_neg hk, pmM, e2]
        · simp only [fE, if_neg hk, pmL]
          refine List.Perm.trans ?_ (List.Perm.append_left _ e3)
          rw [← List.append_assoc, ← List.append_assoc]
          exact List.Perm.append_right _ List.perm_append_comm

theorem aDj {k : Int} {a : Nat} : ∀ {los : List (Nat × Nat)} {m : List (Int × β)}, los.length = m.length → gK m k = none → Put sh m k a (fE (pmM los m) k (some a)) (pmL sh los m)
  | [], [], _, _ => fun b' p' => ⟨[(a, b')], rfl, rfl, by simp [fE, pmL]⟩
  | [], _ :: _, h, _ => by simp at h
  | _ :: _, [], h, _ => by simp at h
  | q :: los, p :: m, hl, h => by
    rw [gK] at h
    split at h
    · cases h
    · rename_i hk
      intro b' p'
      obtain ⟨los', e1, e2, e3⟩ := aDj (a := a) (los := los) (m := m) (by simpa using hl) h b' p'
      refine ⟨q :: los', ?_, ?_, ?_⟩
      · simp only [fE, if_neg hk, List.length_cons, e1]
      · simp only [pmM, fE, if_neg hk, e2]
      · simp only [fE, if_neg hk, pmL]
        refine List.Perm.trans ?_ (List.Perm.append_left _ e3)
        rw [← List.append_assoc, ← List.append_assoc]
        exact List.Perm.append_right _ List.perm_append_comm

theorem CD (A B : OL) : up (A ++ B) = up A ++ up B := by simp [up]

theorem aM.aEE {H0 : aU} {E : List Nat} {G : Gs} {H : aU} {L R : OL} (h : aM ⟨H0, E, up R ++ G⟩ H L) : aM ⟨H0, E, G⟩ H (R ++ L) := by
  have h1 : aM ⟨H0, E, G⟩ H (L ++ R) := aM.glue (F := ⟨H0, E, G⟩) h
  have h2 := h1.IE
  exact (h2.qH (G' := up (R ++ L) ++ G) (List.Perm.append_right _ (by rw [CD, CD]; exact List.perm_append_comm))).take

theorem aM.aED {H0 : aU} {E : List Nat} {G : Gs} {H : aU} {L R : OL} (h : aM ⟨H0, E, G⟩ H (R ++ L)) : aM ⟨H0, E, up R ++ G⟩ H L := by
  have h2 := h.IE
  have h3 : aM ⟨H0, E, G⟩ H (L ++ R) := (h2.qH (G' := up (L ++ R) ++ G) (List.Perm.append_right _ (by rw [CD, CD]; exact List.perm_append_comm))).take
  exact aM.part (F := ⟨H0, E, G⟩) h3

theorem aM.aBl {H0 : aU} {E : List Nat} {H : aU} {L : OL} : ∀ {G : Gs}, aM ⟨H0, E, G⟩ H L → aM ⟨H0, E, []⟩ H L
  | [], h => h
  | _ :: _, h => aM.aBl h.nM

theorem aM.focus {H0 : aU} {E : List Nat} {G : Gs} {H : aU} {L : OL} {lm : Nat} {los : List (Nat × Nat)} {m : List (Int × β)} {k : Int} {x : β} (h : aM ⟨H0, E, pmG sh lm los m ++ G⟩ H L) (hl : los.length = m.length) (hg : gK m k = some x) :
    ∃ a b R, gK (pmM los m) k = some (some a) ∧ Put sh m k a (pmM los m) R ∧ aM ⟨H0, E, (lm, pV sV (pmM los m)) :: (up R ++ G)⟩ H (sh a b x ++ L) := by
  obtain ⟨a, b, R, h1, h2, h3⟩ := WC (sh := sh) hl hg
  refine ⟨a, b, R, h1, h3, ?_⟩
  have : (pmG sh lm los m ++ G).Perm (up (sh a b x) ++ ((lm, pV sV (pmM los m)) :: (up R ++ G))) := by
    unfold pmG
    refine List.Perm.trans ?_ List.perm_middle.symm
    refine List.Perm.cons _ ?_
    rw [← List.append_assoc, ← CD]
    exact List.Perm.append_right _ (h2.map _)
  exact (h.qH this).aEE

theorem aM.aAM {H0 : aU} {E : List Nat} {G : Gs} {H : aU} {L R : OL} {lm a b : Nat} {MM : List (Int × Option Nat)} {m : List (Int × β)} {k : Int} {x : β} (h : aM ⟨H0, E, (lm, pV sV MM) :: (up R ++ G)⟩ H (sh a b x ++ L)) (hp : Put sh m k a MM R) :
    ∃ los', los'.length = (fE m k x).length ∧ aM ⟨H0, E, pmG sh lm los' (fE m k x) ++ G⟩ H L := by
  obtain ⟨los', e1, e2, e3⟩ := hp b x
  refine ⟨los', e1, ?_⟩
  have h1 := h.aED
  refine h1.qH ?_
  unfold pmG
  refine List.perm_middle.trans ?_
  rw [e2]
  refine List.Perm.cons _ ?_
  rw [← List.append_assoc, ← CD]
  exact List.Perm.append_right _ (e3.map _)

theorem MD {P : Program} {ro : Option Nat} {N : Nat} {c : Code} {T : Env} {ds : List Nat} {Q : Exit → Env → aU → List Nat → Prop} {α : Type} [Inhabited α] {H0 : aU} {E : List Nat} (k k2 j : Nat) (cs : Nat → β → List V) (rows : β → List α) (e : α → V) (sf : β → V)
    (hsh : ∀ a b p, sh a b p = [(a, k, [.agg (cs b p)]), (b, k2, (rows p).map e)]) (hj : ∀ b p, (cs b p)[j]? = some (.msl k2 b 0 (rows p).length)) (hsf : ∀ b p, V.agg ((cs b p).set j (eL e (rows p))) = sf p) :
    ∀ (m : List (Int × β)) (los : List (Nat × Nat)) {G : Gs} {H : aU} {L : OL}, los.length = m.length → aM ⟨H0, E, up (pmL sh los m) ++ G⟩ H L →
      (∀ H', aM ⟨H0, E, up (pmL (fun a _ p => [(a, k, [sf p])]) los m) ++ G⟩ H' L → AWP P ro N c T H' ds Q) → AWP P ro N c T H ds Q
  | [], [], G, H, L, _, hO, h => h H hO
  | [], _ :: _, _, _, _, hl, _, _ => by simp at hl
  | _ :: _, [], _, _, _, hl, _, _ => by simp at hl
  | p :: m, q :: los, G, H, L, hl, hO, h => by
    rw [pmL, CD, List.append_assoc] at hO
    have h1 := hO.aEE
    rw [hsh] at h1
    refine MH (e := e) (rows p.2) 0 1 k k2 q.1 q.2 (rows p.2).length j (cs q.2 p.2) ((q.1, k, [sf p.2]) :: L) h1 rfl (hj _ _) rfl rfl rfl (by rw [← hsf q.2 p.2]; rfl) fun H' hO' => ?_
    have h2 := aM.aED (R := [(q.1, k, [sf p.2])]) (L := L) hO'
    have h3 : aM ⟨H0, E, up (pmL sh los m) ++ (up [(q.1, k, [sf p.2])] ++ G)⟩ H' L := h2.qH (by
      rw [← List.append_assoc, ← List.append_assoc]; exact List.Perm.append_right _ List.perm_append_comm)
    refine MD k k2 j cs rows e sf hsh hj hsf m los (by simpa using hl) h3 fun H'' hO'' => h H'' ?_
    refine hO''.qH ?_
    rw [pmL, CD, ← List.append_assoc]
    exact List.Perm.append_right _ List.perm_append_comm

end bundles
def aEv : V → Option Bool
  | .lit (.pointer none) => some true
  | .lp _ _ _ => some false
  | _ => none

section nils
variable {P : Program} {tt : TT} {N : Nat} {T : Env} {H : aU} {ops : Array Oper} {K : Env → aU → Prop} {i n : Nat}
theorem WR {K : V → aU → Prop} {op : BinOp} {t e u : TypeId} {x y : Operand} {z : V} {b : Bool} (hop : op = .eql ∨ op = .neq) (hu : P.underlying t = some (.pointer e)) (hz : aEv z = some b) (h : K (.lit (.bool (if op = .eql then b else !b))) H) : DN P (.binOp op t x y u) [z, .lit (.pointer none)] H K := by
  intro ro o a g w next R ho hs hx hn
  have r1 := hx.2 0 z (a.eval x) rfl (by simp [Op.operands])
  have r2 := hx.2 1 (.lit (.pointer none)) (a.eval y) rfl (by simp [Op.operands])
  have e2 : a.eval y = .pointer none := r2.mF
  have e1 : ∃ ad, a.eval x = .pointer ad ∧ ad.isNone = b := by
    unfold aEv at hz
    split at hz
    · simp at hz; subst hz; exact ⟨none, r1.mF, rfl⟩
    · simp at hz; subst hz; obtain ⟨_, h2⟩ := r1.lpE; exact ⟨_, h2, rfl⟩
    · cases hz
  obtain ⟨ad, e1, e3⟩ := e1
  have hq : (Op.equal t (.pointer ad) (.pointer none)).run P w = .ok b w := by
    unfold Op.equal Op.maxDepth
    unfold Op.equalIn
    simp only [Sem.run_bind, run_underlying hu, Result.andThen]
    cases ad with
    | none => subst e3; rfl
    | some ad => subst e3; rfl
  have hr : (execOp a.eval o).run P w = .ok (.value (.bool (if op = .eql then b else !b))) w := by
    cases o
    simp only at ho
    subst ho
    rcases hop with rfl | rfl
    · have h1 : (eqGuard .eql t x y (.pointer ad) (.pointer none)).run P w = .ok () w := rfl
      have h2 : (binOp .eql t (.pointer ad) (.pointer none)).run P w = .ok (.bool b) w := by
        simp only [binOp, Sem.run_bind, hq, Result.andThen]; rfl
      simp [execOp, e1, e2, h1, h2, Result.andThen]
    · have h1 : (eqGuard .neq t x y (.pointer ad) (.pointer none)).run P w = .ok () w := rfl
      have h2 : (binOp .neq t (.pointer ad) (.pointer none)).run P w = .ok (.bool (!b)) w := by
        simp only [binOp, Sem.run_bind, hq, Result.andThen]; rfl
      simp [execOp, e1, e2, h1, h2, Result.andThen]
  exact eC (fun c e => by rw [e] at ho; cases ho) hr (hn _ _ _ _ _ h hs (.lit _ rfl) (Ext.refl g w))

def aEI (P : Program) (t : TypeId) : Bool := match P.underlying t with
  | some (.pointer _) => true
  | _ => false

def aBZ (P : Program) (N : Nat) (ops : Array Oper) (T : Env) (i : Nat) : Option Bool := match fN N ops i with
  | some (.binOp op t x y _) => match aEI P t, cF T [] x, cF T [] y with
    | true, some z, some (.lit (.pointer none)) => match aEv z, op with
      | some b, .eql => some b
      | some b, .neq => some (!b)
      | _, _ => none
    | _, _, _ => none
  | _ => none

theorem WW (b : Bool) (h : RWs P tt N ops (aL (i + 1) n) (T.bR (cO ops i) ([], .lit (.bool b))) H K)
    (hs : aL i n = i :: aL (i + 1) n := by kernel_rfl) (hd : aBZ P N ops T i = some b := by kernel_rfl) : RWs P tt N ops (aL i n) T H K := by
  unfold aBZ at hd
  split at hd
  · rename_i op t x y u hp
    split at hd
    · rename_i z hi hx hy
      unfold aEI at hi
      split at hi
      · rename_i e hu
        split at hd
        · rename_i b' hz
          simp at hd; subst hd
          exact wF hs hp (xs := [z, .lit (.pointer none)]) (by simp [Op.operands, iF, hx, hy]) (WR (.inl rfl) hu hz (by simpa using h))
        · rename_i b' hz
          simp at hd; subst hd
          exact wF hs hp (xs := [z, .lit (.pointer none)]) (by simp [Op.operands, iF, hx, hy]) (WR (.inr rfl) hu hz (by simpa using h))
        · cases hd
      · cases hi
    · cases hd
  · cases hd

end nils
theorem SR.aEW {g : Gh} {w : World} {H : aU} (h : SR g w H) {l : Nat} {s s' : Sp} (hl : H[l]? = some (.raw s)) (hs : ∀ g w b o, s.p g w b o → s'.p g w b o) : SR g w (H.set l (.raw s')) := by
  have hlt : l < H.length := (List.getElem?_eq_some_iff.1 hl).1
  have hat : ∀ l' ob, (H.set l (.raw s'))[l']? = some ob → (l' = l ∧ ob = .raw s') ∨ (l' ≠ l ∧ H[l']? = some ob) := by
    intro l' ob hl'
    rw [List.getElem?_set] at hl'
    split at hl'
    · rename_i heq
      simp [heq ▸ hlt] at hl'
      exact .inl ⟨heq.symm, hl'.symm⟩
    · rename_i hne; exact .inr ⟨fun e => hne e.symm, hl'⟩
  refine { len := by simp [h.len], fxc := h.fxc, nt := ?_, kk := ?_, vec := ?_, raw := ?_, disj := ?_, rawd := ?_ }
  · intro l' k1 es1 hl1
    rcases hat _ _ hl1 with ⟨_, he⟩ | ⟨_, hl2⟩
    · cases he
    · exact h.nt l' k1 es1 hl2
  · intro l' k1 es1 hl1
    rcases hat _ _ hl1 with ⟨_, he⟩ | ⟨_, hl2⟩
    · cases he
    · exact h.kk l' k1 es1 hl2
  · intro l' k1 es1 hl1
    rcases hat _ _ hl1 with ⟨_, he⟩ | ⟨_, hl2⟩
    · cases he
    · exact h.vec l' k1 es1 hl2
  · intro l' s1 hl1
    rcases hat _ _ hl1 with ⟨rfl, he⟩ | ⟨_, hl2⟩
    · cases he
      obtain ⟨o, q1, q2, q3⟩ := h.raw l' _ hl
      exact ⟨o, q1, q2, hs _ _ _ _ q3⟩
    · exact h.raw l' s1 hl2
  · intro a b k1 k2 es1 es2 ha hb2 hne
    rcases hat _ _ ha with ⟨_, he⟩ | ⟨_, ha2⟩
    · cases he
    · rcases hat _ _ hb2 with ⟨_, he⟩ | ⟨_, hb3⟩
      · cases he
      · exact h.disj _ _ _ _ _ _ ha2 hb3 hne
  · intro a b s1 s2 ha hb2 hne
    rcases hat _ _ ha with ⟨rfl, _⟩ | ⟨_, ha2⟩ <;> rcases hat _ _ hb2 with ⟨rfl, _⟩ | ⟨_, hb3⟩
    · exact absurd rfl hne
    · exact h.rawd _ _ _ _ hl hb3 hne
    · exact h.rawd _ _ _ _ ha2 hl hne
    · exact h.rawd _ _ _ _ ha2 hb3 hne

theorem aCU {N : Nat} {Q : Exit → Env → aU → List Nat → Prop} {ds : List Nat} {e : Exit} {T : Env} {H H0 : aU} {E : List Nat} {G : Gs} {L : OL} {β : Type} {f : β → V} {m : List (Int × β)} {bs : List Nat} {l clock : Nat} (hO : aM ⟨H0, E, (l, GJ f m bs clock) :: G⟩ H L)
    (h : ∀ H', aM ⟨H0, E, (l, pV f m) :: G⟩ H' L → Cl N Q e T H' ds) : Cl N Q e T H ds :=
  BA (fun g w _ _ hg => ⟨g, ⟨hg.sr.aEW (hO.gm 0 _ rfl).2 (s' := DY dI (tW f m)) fun _ _ _ _ ⟨es, h1, _, h3, h4, h5⟩ => ⟨es, clock, h1, h3, h4, h5⟩, hg.tr, hg.df, hg.dl, hg.sz⟩, Ext.refl g w⟩) (h _ (hO.nI _))

theorem PY {S β : Type} (g : S → Int → Option S) : ∀ (q : List (Int × β)) (s : S), dQ (fun s (x : Int × β) => g s x.1) s q = dQ g s (q.map (·.1))
  | [], _ => rfl
  | x :: q, s => by
    simp only [dQ, List.map_cons]
    cases g s x.1 with
    | none => rfl
    | some s' => exact PY g q s'

theorem XR {β : Type} : ∀ {los : List (Nat × Nat)} {m : List (Int × β)}, los.length = m.length → (pmM los m).map (·.1) = m.map (·.1)
  | [], [], _ => rfl
  | _ :: _, _ :: _, h => by simp only [pmM, List.map_cons]; rw [XR (by simpa using h)]
  | [], _ :: _, h => by simp at h
  | _ :: _, [], h => by simp at h

theorem aE0 {S R β : Type} {g : S → Int → Option S} {after : S → Option R} {s : S} {r : R} {los : List (Nat × Nat)} {m : List (Int × β)} (hl : los.length = m.length) (h : tR (m.map (·.1)) (fun q => (dQ g s q).bind after) = some r) :
    tR (pmM los m) (fun q => (dQ (fun s (x : Int × Option Nat) => g s x.1) s q).bind after) = some r :=
  JX fun q hq => by
    rw [PY]
    exact SH h _ (by rw [← XR hl]; exact hq.map _)

theorem TH {β : Type} {k : Int} {x : β} : ∀ {m : List (Int × β)}, gK m k = some x → fE m k x = m
  | [], h => by cases h
  | p :: m, h => by
    rw [gK] at h
    by_cases hk : p.1 = k
    · rw [if_pos hk] at h; cases h
      rw [fE, if_pos hk, ← hk]
    · rw [if_neg hk] at h
      simp only [fE, if_neg hk, TH h]

end Go.Abs
namespace Go.Abs
open Go
structure bY where
  Kind : Int
  Size : Int
  Hop : Int
  deriving Inhabited, DecidableEq

def DM (x : bY) : List V := [(cR .i64 x.Kind)] ++ [(cR .i64 x.Size)] ++ [(cR .i64 x.Hop)]

def cP (x : bY) : V := .agg (DM x)

structure aI where
  Kind : Int
  Num : Int
  Text : ByteArray
  deriving Inhabited, DecidableEq

def MA (x : aI) : List V := [(cR .i64 x.Kind)] ++ [(cR .i64 x.Num)] ++ [(BL x.Text)]

def aJ (x : aI) : V := .agg (MA x)

structure aE where
  Row : (List aI)
  At : Int
  Net : Int
  deriving Inhabited, DecidableEq

def OA (x : aE) : List V := [(eL aJ x.Row)] ++ [(cR .i64 x.At)] ++ [(cR .i64 x.Net)]

def aH (x : aE) : V := .agg (OA x)

structure aB where
  At : Int
  Net : Int
  deriving Inhabited, DecidableEq

def aBc (x : aB) : List V := [(cR .i64 x.At)] ++ [(cR .i64 x.Net)]

def aK (x : aB) : V := .agg (aBc x)

inductive bO where
  | none_
  | k_number (x : Int)
  | k_words (x : ByteArray)
  deriving DecidableEq

instance : Inhabited bO := ⟨.none_⟩

def bL : bO → V
  | .none_ => .lit .nilIface
  | .k_number x => .ifc 148 (cR .i64 x)
  | .k_words x => .ifc 152 (BL x)

structure bJ where
  From : Int
  To : Int
  deriving Inhabited, DecidableEq

def PF (x : bJ) : List V := [(cR .i64 x.From)] ++ [(cR .i64 x.To)]

def cU (x : bJ) : V := .agg (PF x)

structure bB where
  Row : (List aI)
  N : Int
  deriving Inhabited, DecidableEq

def aBq (x : bB) : List V := [(eL aJ x.Row)] ++ [(cR .i64 x.N)]

def bH (x : bB) : V := .agg (aBq x)

structure aN where
  Span : bJ
  Rows : (List bB)
  deriving Inhabited, DecidableEq

def aBJ (x : aN) : List V := PF x.Span ++ [(eL bH x.Rows)]

def aP (x : aN) : V := .agg (aBJ x)

structure cC where
  row : (List aI)
  jumps : (List aB)
  deriving Inhabited, DecidableEq

def ZJ (x : cC) : List V := [(eL aJ x.row)] ++ [(eL aK x.jumps)]

def cD (x : cC) : V := .agg (ZJ x)

noncomputable def qS (n0 : Int) : Option Bool :=
  some ((decide ((1 : Int) ≤ n0)) && (decide (n0 ≤ (1099511627776 : Int))))

noncomputable def lF (ok4 : Bool) : Option Int :=
  cond (!ok4)
  (some (2 : Int))
  (some (0 : Int))

noncomputable def qP (w0 : bY) : Option Int :=
  cond (decide (w0.Kind = (1 : Int)))
  (lF ((decide (w0.Size = (0 : Int))) && (decide (w0.Hop = (0 : Int)))))
  (cond (decide (w0.Kind = (2 : Int)))
  ((qS w0.Size).bind fun x4 =>
  (dN x4 (qS w0.Hop)).bind fun x7 =>
  lF (x4 && x7))
  (cond (decide (w0.Kind = (3 : Int)))
  (lF (((decide ((1 : Int) ≤ w0.Size)) && (decide (w0.Size ≤ (64 : Int)))) && (decide (w0.Hop = (0 : Int)))))
  (lF false)))

noncomputable def qL (l0 : (List aE)) : Option ((List aE)) :=
  some l0

noncomputable def iH  : Option Bool :=
  some true

noncomputable def fP (s10 : (List aI)) (s21 : (List aI)) (t12 : Int) (t13 : Int) : Option ((Int) ⊕ (Unit ⊕ Bool)) :=
  cond (decide (t13 < t12))
  (bE (0 ≤ t13 ∧ t13 < ((List.length s10 : Nat) : Int)) <|
  bE (0 ≤ t13 ∧ t13 < ((List.length s21 : Nat) : Int)) <|
  cond (!((decide (((List.getD s10 (Int.toNat t13) default).Kind) = ((List.getD s21 (Int.toNat t13) default).Kind))) && ((decide (((List.getD s10 (Int.toNat t13) default).Num) = ((List.getD s21 (Int.toNat t13) default).Num))) && ((qF ((List.getD s10 (Int.toNat t13) default).Text) ((List.getD s21 (Int.toNat t13) default).Text)) && true))))
  (some (.inr (.inr false)))
  (some (.inl (IntKind.i64.wrap (t13 + (1 : Int))))))
  (some (.inr (.inl ())))

noncomputable def kH (s10 : (List aI)) (s21 : (List aI)) (t12 : Int) (t13 : Int) : Option Bool :=
  (lp (fun s => fP s10 s21 t12 s) t13).bind (Sum.elim (fun rr => iH ) (fun rr => some rr))

noncomputable def fZ (s10 : (List aI)) (s21 : (List aI)) : Option Bool :=
  cond (!decide (((List.length s10 : Nat) : Int) = ((List.length s21 : Nat) : Int)))
  (some false)
  (kH s10 s21 ((List.length s10 : Nat) : Int) (0 : Int))

noncomputable def rY (a0 : (List aI)) (b1 : (List aI)) : Option Bool :=
  (fZ a0 b1).bind fun x1 =>
  some x1

noncomputable def tV (r0 : (List aI)) : Option (List aI) :=
  bE (0 ≤ ((List.length r0 : Nat) : Int) ∧ (32 : Int) * ((List.length r0 : Nat) : Int) ≤ 281474976710656 ∧ ((List.length r0 : Nat) : Int) ≤ 9223372036854775807) <|
  bE ((List.length ([] : List aI) + List.length r0) * 32 ≤ 140737488355328 ∧ List.length ([] : List aI) + List.length r0 ≤ 9223372036854775807) <|
  some (([] : List aI) ++ r0)

noncomputable def rB {σ : Type} (cG : σ → (List aI) → (List aB) → Option (σ × Bool)) (sg : σ) (t1 : (List aE)) (i3 : Int) (r4 : (List aI)) (f5 : List aB) : Option ((σ × Int) ⊕ (σ ⊕ σ)) :=
  (tV r4).bind fun x7 =>
  (cG sg x7 f5).bind fun x10 =>
  cond (!x10.2)
  (some (.inr (.inr x10.1)))
  (some (.inl (x10.1, i3)))

noncomputable def kM {σ : Type} (cG : σ → (List aI) → (List aB) → Option (σ × Bool)) (t1 : (List aE)) (r4 : (List aI)) (sg : σ) (i3 : Int) (f5 : List aB) : Option ((σ × Int × List aB) ⊕ ((σ × Int × List aB))) :=
  bE ((((decide (i3 < ((List.length t1 : Nat) : Int)))) = true → 0 ≤ i3 ∧ i3 < ((List.length t1 : Nat) : Int))) <|
  (dN (decide (i3 < ((List.length t1 : Nat) : Int))) (rY ((List.getD t1 (Int.toNat i3) default).Row) r4)).bind fun x16 =>
  cond ((decide (i3 < ((List.length t1 : Nat) : Int))) && x16)
  (bE (0 ≤ i3 ∧ i3 < ((List.length t1 : Nat) : Int)) <|
  bE (0 ≤ i3 ∧ i3 < ((List.length t1 : Nat) : Int)) <|
  bE ((List.length f5 + List.length ([aB.mk ((List.getD t1 (Int.toNat i3) default).At) ((List.getD t1 (Int.toNat i3) default).Net)])) * 16 ≤ 140737488355328 ∧ List.length f5 + List.length ([aB.mk ((List.getD t1 (Int.toNat i3) default).At) ((List.getD t1 (Int.toNat i3) default).Net)]) ≤ 9223372036854775807) <|
  some (.inl (sg, IntKind.i64.wrap (i3 + (1 : Int)), f5 ++ ([aB.mk ((List.getD t1 (Int.toNat i3) default).At) ((List.getD t1 (Int.toNat i3) default).Net)]))))
  (some (.inr (sg, i3, f5)))

noncomputable def tZ {σ : Type} (cG : σ → (List aI) → (List aB) → Option (σ × Bool)) (sg : σ) (t1 : (List aE)) (i3 : Int) (r4 : (List aI)) (f5 : List aB) : Option ((σ × Int) ⊕ (σ ⊕ σ)) :=
  (lp (fun s => kM cG t1 r4 s.1 s.2.1 s.2.2) (sg, i3, f5)).bind (fun rr => rB cG rr.1 t1 rr.2.1 r4 rr.2.2)

noncomputable def jK {σ : Type} (cG : σ → (List aI) → (List aB) → Option (σ × Bool)) (t1 : (List aE)) (sg : σ) (i3 : Int) : Option ((σ × Int) ⊕ (σ ⊕ σ)) :=
  cond (decide (i3 < ((List.length t1 : Nat) : Int)))
  (bE (0 ≤ i3 ∧ i3 < ((List.length t1 : Nat) : Int)) <|
  tZ cG sg t1 i3 ((List.getD t1 (Int.toNat i3) default).Row) ([] : List aB))
  (some (.inr (.inl sg)))

noncomputable def uA {σ : Type} (cG : σ → (List aI) → (List aB) → Option (σ × Bool)) (sg : σ) (t1 : (List aE)) (i3 : Int) : Option σ :=
  (lp (fun s => jK cG t1 s.1 s.2) (sg, i3)).bind (Sum.elim (fun rr => some rr) (fun rr => some rr))

noncomputable def nS {σ : Type} (cG : σ → (List aI) → (List aB) → Option (σ × Bool)) (t1 : (List aE)) (sg0 : σ) : Option σ :=
  uA cG sg0 t1 (0 : Int)

noncomputable def gH (f1 : aI → Option Bool)  : Option Int :=
  some (-1 : Int)

noncomputable def iX (f1 : aI → Option Bool) (s0 : (List aI)) (t7 : Int) (t8 : Int) : Option ((Int) ⊕ (Unit ⊕ Int)) :=
  cond (decide (t8 < t7))
  (bE (0 ≤ t8 ∧ t8 < ((List.length s0 : Nat) : Int)) <|
  (f1 (List.getD s0 (Int.toNat t8) default)).bind fun x3 =>
  cond x3
  (some (.inr (.inr t8)))
  (some (.inl (IntKind.i64.wrap (t8 + (1 : Int))))))
  (some (.inr (.inl ())))

noncomputable def iY (f1 : aI → Option Bool) (s0 : (List aI)) (t7 : Int) (t8 : Int) : Option Int :=
  (lp (fun s => iX f1 s0 t7 s) t8).bind (Sum.elim (fun rr => gH f1 ) (fun rr => some rr))

noncomputable def jD (s0 : (List aI)) (f1 : aI → Option Bool) : Option Int :=
  iY f1 s0 ((List.length s0 : Nat) : Int) (0 : Int)

noncomputable def fK (s0 : (List aI)) (f1 : aI → Option Bool) : Option Bool :=
  (jD s0 f1).bind fun x1 =>
  some (decide ((0 : Int) ≤ x1))

noncomputable def mT (v0 : aI) : Option (bO × Bool) :=
  cond ((decide (v0.Kind = (1 : Int))) && (qF v0.Text (⟨#[]⟩ : ByteArray)))
  (some (bO.k_number v0.Num, true))
  (cond (((decide (v0.Kind = (2 : Int))) && (decide (v0.Num = (0 : Int)))) && (decide (((ByteArray.size v0.Text : Nat) : Int) ≤ (64 : Int))))
  (some (bO.k_words v0.Text, true))
  (some (bO.none_, false)))

noncomputable def xY (v0 : aI) : Option Bool :=
  (mT v0).bind fun (x1_0, x1_1) =>
  match x1_0 with
  | .none_ => (some x1_1)
  | .k_number y4 => (some x1_1)
  | .k_words y5 => (some x1_1)

noncomputable def yA (v0 : aI) : Option Bool :=
  (xY v0).bind fun x1 =>
  some (!x1)

noncomputable def wT (r0 : (List aI)) : Option Bool :=
  cond (decide ((8 : Int) < ((List.length r0 : Nat) : Int)))
  (some false)
  ((fK r0 (fun y0 => yA y0)).bind fun x2 =>
  some (!x2))

noncomputable def vY (t0 : (List aI)) : Option ((Int × (List aI))) :=
  some ((-1 : Int), t0)

noncomputable def fJ {σ : Type} (f1 : σ → aI → Option (σ × Bool)) (sg : σ) : Option (σ × Int) :=
  some (sg, (-1 : Int))

noncomputable def cK {σ : Type} (f1 : σ → aI → Option (σ × Bool)) (s0 : (List aI)) (t7 : Int) (sg : σ) (t8 : Int) : Option ((σ × Int) ⊕ (σ ⊕ (σ × Int))) :=
  cond (decide (t8 < t7))
  (bE (0 ≤ t8 ∧ t8 < ((List.length s0 : Nat) : Int)) <|
  (f1 sg (List.getD s0 (Int.toNat t8) default)).bind fun x3 =>
  cond x3.2
  (some (.inr (.inr (x3.1, t8))))
  (some (.inl (x3.1, IntKind.i64.wrap (t8 + (1 : Int))))))
  (some (.inr (.inl sg)))

noncomputable def iP {σ : Type} (f1 : σ → aI → Option (σ × Bool)) (sg : σ) (s0 : (List aI)) (t7 : Int) (t8 : Int) : Option (σ × Int) :=
  (lp (fun s => cK f1 s0 t7 s.1 s.2) (sg, t8)).bind (Sum.elim (fun rr => fJ f1 rr) (fun rr => some (rr.1, rr.2)))

noncomputable def iU {σ : Type} (s0 : (List aI)) (f1 : σ → aI → Option (σ × Bool)) (sg0 : σ) : Option (σ × Int) :=
  iP f1 sg0 s0 ((List.length s0 : Nat) : Int) (0 : Int)

noncomputable def kX (v0 : aI) (t1 : Int) (t2 : (List aI)) : Option (Bool × Int) :=
  bE (0 ≤ (IntKind.i64.wrap (t1 + (1 : Int))) ∧ (IntKind.i64.wrap (t1 + (1 : Int))) < ((List.length t2 : Nat) : Int)) <|
  some ((!((decide (v0.Kind = ((List.getD t2 (Int.toNat (IntKind.i64.wrap (t1 + (1 : Int)))) default).Kind))) && ((decide (v0.Num = ((List.getD t2 (Int.toNat (IntKind.i64.wrap (t1 + (1 : Int)))) default).Num))) && ((qF v0.Text ((List.getD t2 (Int.toNat (IntKind.i64.wrap (t1 + (1 : Int)))) default).Text)) && true)))), (IntKind.i64.wrap (t1 + (1 : Int))))

noncomputable def lO (x0 : Int) : Option Bool :=
  some (!decide (x0 = x0))

noncomputable def qD (x0 : Int) (y1 : Int) : Option Int :=
  (lO x0).bind fun x1 =>
  (lO y1).bind fun x4 =>
  cond x1
  (cond x4
  (some (0 : Int))
  (some (-1 : Int)))
  (cond x4
  (some (1 : Int))
  (cond (decide (x0 < y1))
  (some (-1 : Int))
  (cond (decide (y1 < x0))
  (some (1 : Int))
  (some (0 : Int)))))

noncomputable def lV (x0 : Int) : Option Bool :=
  some (!decide (x0 = x0))

noncomputable def gW (x0 : Int) (y1 : Int) : Option Int :=
  (lV x0).bind fun x1 =>
  (lV y1).bind fun x4 =>
  cond x1
  (cond x4
  (some (0 : Int))
  (some (-1 : Int)))
  (cond x4
  (some (1 : Int))
  (cond (decide (x0 < y1))
  (some (-1 : Int))
  (cond (decide (y1 < x0))
  (some (1 : Int))
  (some (0 : Int)))))

noncomputable def kO (a0 : ByteArray) (b1 : ByteArray) : Option Int :=
  some (RJ a0 b1)

noncomputable def nX (a0 : ByteArray) (b1 : ByteArray) : Option Int :=
  (kO a0 b1).bind fun x1 =>
  some x1

noncomputable def rW (a0 : aI) (b1 : aI) : Option Int :=
  (mT a0).bind fun (x1_0, x1_1) =>
  match x1_0 with
  | .none_ => ((mT b1).bind fun (x6_0, x6_1) =>
  match x6_0 with
  | .none_ => (cond ((!x1_1) || (!x6_1))
  (some (0 : Int))
  (none))
  | .k_number y9 => (cond ((!x1_1) || (!x6_1))
  (some (0 : Int))
  (some (1 : Int)))
  | .k_words y10 => (cond ((!x1_1) || (!x6_1))
  (some (0 : Int))
  (none)))
  | .k_number y4 => ((mT b1).bind fun (x23_0, x23_1) =>
  match x23_0 with
  | .none_ => (cond ((!x1_1) || (!x23_1))
  (some (0 : Int))
  (some (-1 : Int)))
  | .k_number y26 => (cond ((!x1_1) || (!x23_1))
  (some (0 : Int))
  ((gW y4 y26).bind fun x33 =>
  some x33))
  | .k_words y27 => (cond ((!x1_1) || (!x23_1))
  (some (0 : Int))
  (some (-1 : Int))))
  | .k_words y5 => ((mT b1).bind fun (x39_0, x39_1) =>
  match x39_0 with
  | .none_ => (cond ((!x1_1) || (!x39_1))
  (some (0 : Int))
  (none))
  | .k_number y42 => (cond ((!x1_1) || (!x39_1))
  (some (0 : Int))
  (some (1 : Int)))
  | .k_words y43 => (cond ((!x1_1) || (!x39_1))
  (some (0 : Int))
  ((nX y5 y43).bind fun x56 =>
  some x56)))

noncomputable def uG (a0 : (List aI)) (b1 : (List aI)) : Option Int :=
  (wT a0).bind fun x1 =>
  (dN (!(!x1)) (wT b1)).bind fun x4 =>
  cond ((!x1) || (!x4))
  (some (0 : Int))
  (bE (0 ≤ (if ((List.length b1 : Nat) : Int) < ((List.length a0 : Nat) : Int) then ((List.length b1 : Nat) : Int) else ((List.length a0 : Nat) : Int)) ∧ (if ((List.length b1 : Nat) : Int) < ((List.length a0 : Nat) : Int) then ((List.length b1 : Nat) : Int) else ((List.length a0 : Nat) : Int)) ≤ ((List.length a0 : Nat) : Int)) <|
  (vY b1).bind fun x9 =>
  (iU (List.take (Int.toNat (if ((List.length b1 : Nat) : Int) < ((List.length a0 : Nat) : Int) then ((List.length b1 : Nat) : Int) else ((List.length a0 : Nat) : Int))) a0) (fun st y0 => (kX y0 st x9.2).bind fun o => some (o.2, o.1)) x9.1).bind fun x12 =>
  cond (decide (x12.2 < (0 : Int)))
  ((qD ((List.length a0 : Nat) : Int) ((List.length b1 : Nat) : Int)).bind fun x15 =>
  some x15)
  (bE (0 ≤ x12.2 ∧ x12.2 < ((List.length a0 : Nat) : Int)) <|
  bE (0 ≤ x12.2 ∧ x12.2 < ((List.length b1 : Nat) : Int)) <|
  (rW (List.getD a0 (Int.toNat x12.2) default) (List.getD b1 (Int.toNat x12.2) default)).bind fun x20 =>
  some x20))

noncomputable def qY (wA : (List aB) → Option Bool) (mG : (List aE)) (t4 : Bool) (qI : (List aI)) (lJ : Bool) (t14 : (List aI)) (t15 : (List aB)) : Option ((Bool × (List aI) × Bool) ⊕ (Bool × (List aI) × Bool)) :=
  (wT t14).bind fun x7 =>
  (dN (lJ && (!(!x7))) (uG qI t14)).bind fun x12 =>
  (dN (!((!x7) || (lJ && (decide ((0 : Int) ≤ x12))))) (wA t15)).bind fun x15 =>
  cond (((!x7) || (lJ && (decide ((0 : Int) ≤ x12)))) || (!x15))
  (some (.inr (false, qI, lJ)))
  (some (.inl (t4, t14, true)))

noncomputable def AN (wA : (List aB) → Option Bool) (t4 : Bool) (qI : (List aI)) (lJ : Bool) (mG : (List aE)) : Option Bool :=
  (nS (fun st t14 t15 => rnd (fun (s : Bool × (List aI) × Bool) => qY wA mG s.1 s.2.1 s.2.2 t14 t15) st) mG (.inl (t4, qI, lJ))).bind (Sum.elim (fun (s : Bool × (List aI) × Bool) =>
  (some true))
  (fun (s : Bool × (List aI) × Bool) =>
  (some s.1)))

noncomputable def uY (l0 : (List aE)) (wA : (List aB) → Option Bool) : Option Bool :=
  cond (decide ((4096 : Int) < ((List.length l0 : Nat) : Int)))
  (some false)
  ((qL l0).bind fun x5 =>
  AN wA false ([]) false x5)

noncomputable def BP (n0 : Int) : Option Bool :=
  some ((decide (n0 ≤ (1048576 : Int))) && (decide ((-1048576 : Int) ≤ n0)))

noncomputable def yM  : Option Bool :=
  some true

noncomputable def nJ (t9 : (List aB)) (t10 : Int) (sN : Int) (t11 : Int) : Option ((Int × Int) ⊕ (Unit ⊕ Bool)) :=
  cond (decide (t11 < t10))
  (bE (0 ≤ t11 ∧ t11 < ((List.length t9 : Nat) : Int)) <|
  (dN (!(((decide (((List.getD t9 (Int.toNat t11) default).At) ≤ sN)) || (decide ((1125899906842624 : Int) ≤ ((List.getD t9 (Int.toNat t11) default).At)))) || (decide (((List.getD t9 (Int.toNat t11) default).Net) = (0 : Int))))) (BP ((List.getD t9 (Int.toNat t11) default).Net))).bind fun x8 =>
  cond ((((decide (((List.getD t9 (Int.toNat t11) default).At) ≤ sN)) || (decide ((1125899906842624 : Int) ≤ ((List.getD t9 (Int.toNat t11) default).At)))) || (decide (((List.getD t9 (Int.toNat t11) default).Net) = (0 : Int)))) || (!x8))
  (some (.inr (.inr false)))
  (some (.inl ((List.getD t9 (Int.toNat t11) default).At, IntKind.i64.wrap (t11 + (1 : Int))))))
  (some (.inr (.inl ())))

noncomputable def BN (sN : Int) (t9 : (List aB)) (t10 : Int) (t11 : Int) : Option Bool :=
  (lp (fun s => nJ t9 t10 s.1 s.2) (sN, t11)).bind (Sum.elim (fun rr => yM ) (fun rr => some rr))

noncomputable def nQ (f0 : (List aB)) : Option Bool :=
  cond (decide ((1024 : Int) < ((List.length f0 : Nat) : Int)))
  (some false)
  (BN (-2 : Int) f0 ((List.length f0 : Nat) : Int) (0 : Int))

noncomputable def oY (l0 : (List aE)) : Option Bool :=
  (uY l0 (fun y0 => nQ y0)).bind fun x1 =>
  some x1

noncomputable def uT (iW : Int) : Option Int :=
  some iW

noncomputable def oB (t24 : (List aB)) (t25 : Int) (v3 : Int) (iW : Int) (t26 : Int) : Option ((Int × Int × Int) ⊕ (Int)) :=
  cond (decide (t26 < t25))
  (bE (0 ≤ t26 ∧ t26 < ((List.length t24 : Nat) : Int)) <|
  some (.inl (IntKind.i64.wrap (v3 + ((List.getD t24 (Int.toNat t26) default).Net)), if (IntKind.i64.wrap (v3 + ((List.getD t24 (Int.toNat t26) default).Net))) < iW then (IntKind.i64.wrap (v3 + ((List.getD t24 (Int.toNat t26) default).Net))) else iW, IntKind.i64.wrap (t26 + (1 : Int)))))
  (some (.inr iW))

noncomputable def uJ (v3 : Int) (iW : Int) (t24 : (List aB)) (t25 : Int) (t26 : Int) : Option Int :=
  (lp (fun s => oB t24 t25 s.1 s.2.1 s.2.2) (v3, iW, t26)).bind (fun rr => uT rr)

noncomputable def rQ (f0 : (List aB)) (v3 : Int) (iW : Int) : Option Int :=
  uJ v3 iW f0 ((List.length f0 : Nat) : Int) (0 : Int)

noncomputable def wH (f0 : (List aB)) : Option Int :=
  (nQ f0).bind fun x1 =>
  cond ((!x1) || (decide (((List.length f0 : Nat) : Int) = (0 : Int))))
  (some (0 : Int))
  (bE (0 ≤ (0 : Int) ∧ (0 : Int) < ((List.length f0 : Nat) : Int)) <|
  cond (decide (((List.getD f0 (Int.toNat (0 : Int)) default).At) = (-1 : Int)))
  (bE (0 ≤ (0 : Int) ∧ (0 : Int) < ((List.length f0 : Nat) : Int)) <|
  rQ f0 (0 : Int) ((List.getD f0 (Int.toNat (0 : Int)) default).Net))
  (rQ f0 (0 : Int) (0 : Int)))

noncomputable def tI (f0 : (List aB)) : Option Bool :=
  (nQ f0).bind fun x1 =>
  (dN x1 (wH f0)).bind fun x4 =>
  some (x1 && (decide ((0 : Int) ≤ x4)))

noncomputable def pK (l0 : (List aE)) : Option Bool :=
  (uY l0 (fun y0 => tI y0)).bind fun x1 =>
  some x1

noncomputable def qM (w0 : bY) (l1 : (List aE)) (t2 : Int) : Option Int :=
  (qP w0).bind fun x1 =>
  (dN (!(!decide (x1 = (0 : Int)))) (oY l1)).bind fun x4 =>
  cond ((!decide (x1 = (0 : Int))) || (!x4))
  (some (2 : Int))
  ((pK l1).bind fun x8 =>
  cond (!x8)
  (some (20 : Int))
  (cond ((decide (t2 < (0 : Int))) || (decide ((1125899906842624 : Int) < t2)))
  (some (13 : Int))
  (some (0 : Int))))

noncomputable def zP (mV : Int) (hop1 : Int) : Option Bool :=
  some ((((decide ((1 : Int) ≤ mV)) && (decide (mV ≤ (1099511627776 : Int)))) && (decide ((1 : Int) ≤ hop1))) && (decide (hop1 ≤ (1099511627776 : Int))))

noncomputable def uB (t0 : Int) : Option Bool :=
  some ((decide ((0 : Int) ≤ t0)) && (decide (t0 ≤ (1125899906842624 : Int))))

noncomputable def wC (q7 : Int) (r8 : Int) : Option (Int × Int × Int) :=
  some (q7, r8, (0 : Int))

noncomputable def xX (a0 : Int) (b1 : Int) : Option (Int × Int × Int) :=
  cond (decide (b1 < (1 : Int)))
  (some ((0 : Int), (0 : Int), (2 : Int)))
  (bE (b1 ≠ 0) <|
  bE (b1 ≠ 0) <|
  cond (decide ((Int.tmod a0 b1) < (0 : Int)))
  (wC (IntKind.i64.wrap ((IntKind.i64.wrap (Int.tdiv a0 b1)) - (1 : Int))) (IntKind.i64.wrap ((Int.tmod a0 b1) + b1)))
  (wC (IntKind.i64.wrap (Int.tdiv a0 b1)) (Int.tmod a0 b1)))

noncomputable def qZ (hop0 : Int) (n1 : Int) : Option Int :=
  cond (decide (n1 < (0 : Int)))
  (some (0 : Int))
  ((xX n1 hop0).bind fun x2 =>
  some (IntKind.i64.wrap ((IntKind.i64.wrap (x2.1 + (1 : Int))) * hop0)))

noncomputable def AD (mV : Int) (hop1 : Int) (t2 : Int) : Option (Int × Int) :=
  (zP mV hop1).bind fun x1 =>
  cond (!x1)
  (some ((0 : Int), (2 : Int)))
  ((uB t2).bind fun x5 =>
  cond (!x5)
  (some ((0 : Int), (13 : Int)))
  (cond (decide (t2 = (1125899906842624 : Int)))
  (some ((1125899906842624 : Int), (0 : Int)))
  ((qZ hop1 (IntKind.i64.wrap (t2 - mV))).bind fun x10 =>
  some (if (1125899906842624 : Int) < x10 then (1125899906842624 : Int) else x10, (0 : Int)))))

noncomputable def tF (l0 : (List aE)) (n1 : Int) : Option Int :=
  (oY l0).bind fun x1 =>
  cond (((!x1) || (decide (n1 < (1 : Int)))) || (decide ((64 : Int) < n1)))
  (some (2 : Int))
  ((pK l0).bind fun x5 =>
  cond (!x5)
  (some (20 : Int))
  (some (0 : Int)))

noncomputable def qN (l0 : (List aE)) : Option ((List aE)) :=
  some l0

noncomputable def lA {σ : Type} (cG : σ → aE → Option (σ × Bool)) (t5 : (List aE)) (t6 : Int) (sg : σ) (t7 : Int) : Option ((σ × Int) ⊕ (σ ⊕ σ)) :=
  cond (decide (t7 < t6))
  (bE (0 ≤ t7 ∧ t7 < ((List.length t5 : Nat) : Int)) <|
  (BZ ((decide ((0 : Int) < ((List.getD t5 (Int.toNat t7) default).Net))) && (decide ((-1 : Int) < ((List.getD t5 (Int.toNat t7) default).At)))) sg (cG sg (List.getD t5 (Int.toNat t7) default))).bind fun (x8, x9) =>
  cond (((decide ((0 : Int) < ((List.getD t5 (Int.toNat t7) default).Net))) && (decide ((-1 : Int) < ((List.getD t5 (Int.toNat t7) default).At)))) && (!x9))
  (some (.inr (.inr x8)))
  (some (.inl (x8, IntKind.i64.wrap (t7 + (1 : Int))))))
  (some (.inr (.inl sg)))

noncomputable def rI {σ : Type} (cG : σ → aE → Option (σ × Bool)) (sg : σ) (t5 : (List aE)) (t6 : Int) (t7 : Int) : Option σ :=
  (lp (fun s => lA cG t5 t6 s.1 s.2) (sg, t7)).bind (Sum.elim (fun rr => some rr) (fun rr => some rr))

noncomputable def mX {σ : Type} (cG : σ → aE → Option (σ × Bool)) (t1 : (List aE)) (sg0 : σ) : Option σ :=
  rI cG sg0 t1 ((List.length t1 : Nat) : Int) (0 : Int)

noncomputable def nD (x0 : Int) (n2 : Int) : Option Int :=
  bE (0 ≤ (IntKind.u8.wrap x0) ∧ (IntKind.u8.wrap x0) < ((ByteArray.size (⟨#[0, 1, 2, 2, 3, 3, 3, 3, 4, 4, 4, 4, 4, 4, 4, 4, 5, 5, 5, 5, 5, 5, 5, 5, 5, 5, 5, 5, 5, 5, 5, 5, 6, 6, 6, 6, 6, 6, 6, 6, 6, 6, 6, 6, 6, 6, 6, 6, 6, 6, 6, 6, 6, 6, 6, 6, 6, 6, 6, 6, 6, 6, 6, 6, 7, 7, 7, 7, 7, 7, 7, 7, 7, 7, 7, 7, 7, 7, 7, 7, 7, 7, 7, 7, 7, 7, 7, 7, 7, 7, 7, 7, 7, 7, 7, 7, 7, 7, 7, 7, 7, 7, 7, 7, 7, 7, 7, 7, 7, 7, 7, 7, 7, 7, 7, 7, 7, 7, 7, 7, 7, 7, 7, 7, 7, 7, 7, 7, 8, 8, 8, 8, 8, 8, 8, 8, 8, 8, 8, 8, 8, 8, 8, 8, 8, 8, 8, 8, 8, 8, 8, 8, 8, 8, 8, 8, 8, 8, 8, 8, 8, 8, 8, 8, 8, 8, 8, 8, 8, 8, 8, 8, 8, 8, 8, 8, 8, 8, 8, 8, 8, 8, 8, 8, 8, 8, 8, 8, 8, 8, 8, 8, 8, 8, 8, 8, 8, 8, 8, 8, 8, 8, 8, 8, 8, 8, 8, 8, 8, 8, 8, 8, 8, 8, 8, 8, 8, 8, 8, 8, 8, 8, 8, 8, 8, 8, 8, 8, 8, 8, 8, 8, 8, 8, 8, 8, 8, 8, 8, 8, 8, 8, 8, 8, 8, 8, 8, 8, 8, 8, 8, 8, 8, 8, 8, 8]⟩ : ByteArray) : Nat) : Int)) <|
  some (IntKind.i64.wrap (n2 + (IntKind.i64.wrap (bt (⟨#[0, 1, 2, 2, 3, 3, 3, 3, 4, 4, 4, 4, 4, 4, 4, 4, 5, 5, 5, 5, 5, 5, 5, 5, 5, 5, 5, 5, 5, 5, 5, 5, 6, 6, 6, 6, 6, 6, 6, 6, 6, 6, 6, 6, 6, 6, 6, 6, 6, 6, 6, 6, 6, 6, 6, 6, 6, 6, 6, 6, 6, 6, 6, 6, 7, 7, 7, 7, 7, 7, 7, 7, 7, 7, 7, 7, 7, 7, 7, 7, 7, 7, 7, 7, 7, 7, 7, 7, 7, 7, 7, 7, 7, 7, 7, 7, 7, 7, 7, 7, 7, 7, 7, 7, 7, 7, 7, 7, 7, 7, 7, 7, 7, 7, 7, 7, 7, 7, 7, 7, 7, 7, 7, 7, 7, 7, 7, 7, 8, 8, 8, 8, 8, 8, 8, 8, 8, 8, 8, 8, 8, 8, 8, 8, 8, 8, 8, 8, 8, 8, 8, 8, 8, 8, 8, 8, 8, 8, 8, 8, 8, 8, 8, 8, 8, 8, 8, 8, 8, 8, 8, 8, 8, 8, 8, 8, 8, 8, 8, 8, 8, 8, 8, 8, 8, 8, 8, 8, 8, 8, 8, 8, 8, 8, 8, 8, 8, 8, 8, 8, 8, 8, 8, 8, 8, 8, 8, 8, 8, 8, 8, 8, 8, 8, 8, 8, 8, 8, 8, 8, 8, 8, 8, 8, 8, 8, 8, 8, 8, 8, 8, 8, 8, 8, 8, 8, 8, 8, 8, 8, 8, 8, 8, 8, 8, 8, 8, 8, 8, 8, 8, 8, 8, 8, 8, 8]⟩ : ByteArray) (IntKind.u8.wrap x0)))))

noncomputable def mA (x0 : Int) (n2 : Int) : Option Int :=
  cond (decide ((256 : Int) ≤ x0))
  (bE (0 ≤ (8 : Int)) <|
  nD (Int.fdiv x0 (2 ^ (min (Int.toNat (8 : Int)) 64))) (IntKind.i64.wrap (n2 + (8 : Int))))
  (nD x0 n2)

noncomputable def lZ (x0 : Int) (n2 : Int) : Option Int :=
  cond (decide ((65536 : Int) ≤ x0))
  (bE (0 ≤ (16 : Int)) <|
  mA (Int.fdiv x0 (2 ^ (min (Int.toNat (16 : Int)) 64))) (IntKind.i64.wrap (n2 + (16 : Int))))
  (mA x0 n2)

noncomputable def qE (x0 : Int) : Option Int :=
  cond (decide ((4294967296 : Int) ≤ x0))
  (bE (0 ≤ (32 : Int)) <|
  lZ (Int.fdiv x0 (2 ^ (min (Int.toNat (32 : Int)) 64))) (32 : Int))
  (lZ x0 (0 : Int))

noncomputable def lE (x0 : Int) : Option Int :=
  (qE x0).bind fun x2 =>
  some x2

noncomputable def dF (x0 : Int) (y1 : Int) : Option Bool :=
  (lO x0).bind fun x1 =>
  (dN x1 (lO y1)).bind fun x4 =>
  some ((x1 && (!x4)) || (decide (x0 < y1)))

noncomputable def iC (aA : List Int) (a1 : Int) (b2 : Int) (i6 : Int) : Option ((List Int × Int) ⊕ ((List Int))) :=
  some (.inl (aA, IntKind.i64.wrap (i6 + (1 : Int))))

noncomputable def fH (a1 : Int) (b2 : Int) (i6 : Int) (aA : List Int) (j7 : Int) : Option ((List Int × Int) ⊕ ((List Int))) :=
  bE ((((decide (a1 < j7))) = true → 0 ≤ j7 ∧ j7 < ((List.length aA : Nat) : Int))) <|
  bE ((((decide (a1 < j7))) = true → 0 ≤ (IntKind.i64.wrap (j7 - (1 : Int))) ∧ (IntKind.i64.wrap (j7 - (1 : Int))) < ((List.length aA : Nat) : Int))) <|
  (dN (decide (a1 < j7)) (dF (List.getD aA (Int.toNat j7) default) (List.getD aA (Int.toNat (IntKind.i64.wrap (j7 - (1 : Int)))) default))).bind fun x4 =>
  cond ((decide (a1 < j7)) && x4)
  (bE (0 ≤ (IntKind.i64.wrap (j7 - (1 : Int))) ∧ (IntKind.i64.wrap (j7 - (1 : Int))) < ((List.length aA : Nat) : Int)) <|
  bE (0 ≤ j7 ∧ j7 < ((List.length aA : Nat) : Int)) <|
  bE (0 ≤ j7 ∧ j7 < ((List.length aA : Nat) : Int)) <|
  bE (0 ≤ (IntKind.i64.wrap (j7 - (1 : Int))) ∧ (IntKind.i64.wrap (j7 - (1 : Int))) < ((List.length aA : Nat) : Int)) <|
  some (.inl (List.set (List.set aA (Int.toNat j7) (List.getD aA (Int.toNat (IntKind.i64.wrap (j7 - (1 : Int)))) default)) (Int.toNat (IntKind.i64.wrap (j7 - (1 : Int)))) (List.getD aA (Int.toNat j7) default), IntKind.i64.wrap (j7 - (1 : Int)))))
  (some (.inr aA))

noncomputable def jZ (aA : List Int) (a1 : Int) (b2 : Int) (i6 : Int) (j7 : Int) : Option ((List Int × Int) ⊕ ((List Int))) :=
  (lp (fun s => fH a1 b2 i6 s.1 s.2) (aA, j7)).bind (fun rr => iC rr a1 b2 i6)

noncomputable def dS (a1 : Int) (b2 : Int) (aA : List Int) (i6 : Int) : Option ((List Int × Int) ⊕ ((List Int))) :=
  cond (decide (i6 < b2))
  (jZ aA a1 b2 i6 i6)
  (some (.inr aA))

noncomputable def jX (aA : List Int) (a1 : Int) (b2 : Int) (i6 : Int) : Option (List Int) :=
  (lp (fun s => dS a1 b2 s.1 s.2) (aA, i6)).bind (fun rr => some rr)

noncomputable def iK (aA : (List Int)) (a1 : Int) (b2 : Int) : Option (List Int) :=
  jX aA a1 b2 (IntKind.i64.wrap (a1 + (1 : Int)))

noncomputable def iD (aA : List Int) (hi2 : Int) (bM : Int) (cI : Int) (eF : Int) : Option ((List Int × Int) ⊕ ((List Int) ⊕ (List Int))) :=
  bE (0 ≤ (IntKind.i64.wrap (bM + cI)) ∧ (IntKind.i64.wrap (bM + cI)) < ((List.length aA : Nat) : Int)) <|
  bE (0 ≤ (IntKind.i64.wrap (bM + eF)) ∧ (IntKind.i64.wrap (bM + eF)) < ((List.length aA : Nat) : Int)) <|
  (dF (List.getD aA (Int.toNat (IntKind.i64.wrap (bM + cI))) default) (List.getD aA (Int.toNat (IntKind.i64.wrap (bM + eF))) default)).bind fun x4 =>
  cond (!x4)
  (some (.inr (.inr aA)))
  (bE (0 ≤ (IntKind.i64.wrap (bM + eF)) ∧ (IntKind.i64.wrap (bM + eF)) < ((List.length aA : Nat) : Int)) <|
  bE (0 ≤ (IntKind.i64.wrap (bM + cI)) ∧ (IntKind.i64.wrap (bM + cI)) < ((List.length aA : Nat) : Int)) <|
  bE (0 ≤ (IntKind.i64.wrap (bM + cI)) ∧ (IntKind.i64.wrap (bM + cI)) < ((List.length aA : Nat) : Int)) <|
  bE (0 ≤ (IntKind.i64.wrap (bM + eF)) ∧ (IntKind.i64.wrap (bM + eF)) < ((List.length aA : Nat) : Int)) <|
  some (.inl (List.set (List.set aA (Int.toNat (IntKind.i64.wrap (bM + cI))) (List.getD aA (Int.toNat (IntKind.i64.wrap (bM + eF))) default)) (Int.toNat (IntKind.i64.wrap (bM + eF))) (List.getD aA (Int.toNat (IntKind.i64.wrap (bM + cI))) default), eF)))

noncomputable def dO (hi2 : Int) (bM : Int) (aA : List Int) (cI : Int) : Option ((List Int × Int) ⊕ ((List Int) ⊕ (List Int))) :=
  cond (decide (hi2 ≤ (IntKind.i64.wrap ((IntKind.i64.wrap ((2 : Int) * cI)) + (1 : Int)))))
  (some (.inr (.inl aA)))
  (bE ((((decide ((IntKind.i64.wrap ((IntKind.i64.wrap ((IntKind.i64.wrap ((2 : Int) * cI)) + (1 : Int))) + (1 : Int))) < hi2))) = true → 0 ≤ (IntKind.i64.wrap (bM + (IntKind.i64.wrap ((IntKind.i64.wrap ((2 : Int) * cI)) + (1 : Int))))) ∧ (IntKind.i64.wrap (bM + (IntKind.i64.wrap ((IntKind.i64.wrap ((2 : Int) * cI)) + (1 : Int))))) < ((List.length aA : Nat) : Int))) <|
  bE ((((decide ((IntKind.i64.wrap ((IntKind.i64.wrap ((IntKind.i64.wrap ((2 : Int) * cI)) + (1 : Int))) + (1 : Int))) < hi2))) = true → 0 ≤ (IntKind.i64.wrap ((IntKind.i64.wrap (bM + (IntKind.i64.wrap ((IntKind.i64.wrap ((2 : Int) * cI)) + (1 : Int))))) + (1 : Int))) ∧ (IntKind.i64.wrap ((IntKind.i64.wrap (bM + (IntKind.i64.wrap ((IntKind.i64.wrap ((2 : Int) * cI)) + (1 : Int))))) + (1 : Int))) < ((List.length aA : Nat) : Int))) <|
  (dN (decide ((IntKind.i64.wrap ((IntKind.i64.wrap ((IntKind.i64.wrap ((2 : Int) * cI)) + (1 : Int))) + (1 : Int))) < hi2)) (dF (List.getD aA (Int.toNat (IntKind.i64.wrap (bM + (IntKind.i64.wrap ((IntKind.i64.wrap ((2 : Int) * cI)) + (1 : Int)))))) default) (List.getD aA (Int.toNat (IntKind.i64.wrap ((IntKind.i64.wrap (bM + (IntKind.i64.wrap ((IntKind.i64.wrap ((2 : Int) * cI)) + (1 : Int))))) + (1 : Int)))) default))).bind fun x14 =>
  cond ((decide ((IntKind.i64.wrap ((IntKind.i64.wrap ((IntKind.i64.wrap ((2 : Int) * cI)) + (1 : Int))) + (1 : Int))) < hi2)) && x14)
  (iD aA hi2 bM cI (IntKind.i64.wrap ((IntKind.i64.wrap ((IntKind.i64.wrap ((2 : Int) * cI)) + (1 : Int))) + (1 : Int))))
  (iD aA hi2 bM cI (IntKind.i64.wrap ((IntKind.i64.wrap ((2 : Int) * cI)) + (1 : Int)))))

noncomputable def lT (aA : List Int) (hi2 : Int) (bM : Int) (cI : Int) : Option (List Int) :=
  (lp (fun s => dO hi2 bM s.1 s.2) (aA, cI)).bind (Sum.elim (fun rr => some rr) (fun rr => some rr))

noncomputable def gE (aA : (List Int)) (lo1 : Int) (hi2 : Int) (bM : Int) : Option (List Int) :=
  lT aA hi2 bM lo1

noncomputable def eG (bT : Int) (lo7 : Int) (aA : List Int) (i10 : Int) : Option ((List Int × Int) ⊕ ((List Int))) :=
  cond (decide ((0 : Int) ≤ i10))
  (bE (0 ≤ (IntKind.i64.wrap (bT + i10)) ∧ (IntKind.i64.wrap (bT + i10)) < ((List.length aA : Nat) : Int)) <|
  bE (0 ≤ bT ∧ bT < ((List.length aA : Nat) : Int)) <|
  bE (0 ≤ bT ∧ bT < ((List.length aA : Nat) : Int)) <|
  bE (0 ≤ (IntKind.i64.wrap (bT + i10)) ∧ (IntKind.i64.wrap (bT + i10)) < ((List.length aA : Nat) : Int)) <|
  (gE (List.set (List.set aA (Int.toNat bT) (List.getD aA (Int.toNat (IntKind.i64.wrap (bT + i10))) default)) (Int.toNat (IntKind.i64.wrap (bT + i10))) (List.getD aA (Int.toNat bT) default)) lo7 i10 bT).bind fun x6 =>
  some (.inl (x6, IntKind.i64.wrap (i10 - (1 : Int)))))
  (some (.inr aA))

noncomputable def lU (aA : List Int) (bT : Int) (lo7 : Int) (i10 : Int) : Option (List Int) :=
  (lp (fun s => eG bT lo7 s.1 s.2) (aA, i10)).bind (fun rr => some rr)

noncomputable def jV (aA : List Int) (bT : Int) (lo7 : Int) (hi8 : Int) : Option (List Int) :=
  lU aA bT lo7 (IntKind.i64.wrap (hi8 - (1 : Int)))

noncomputable def eH (bT : Int) (lo7 : Int) (hi8 : Int) (aA : List Int) (i9 : Int) : Option ((List Int × Int) ⊕ ((List Int))) :=
  cond (decide ((0 : Int) ≤ i9))
  ((gE aA i9 hi8 bT).bind fun x11 =>
  some (.inl (x11, IntKind.i64.wrap (i9 - (1 : Int)))))
  (some (.inr aA))

noncomputable def lS (aA : List Int) (bT : Int) (lo7 : Int) (hi8 : Int) (i9 : Int) : Option (List Int) :=
  (lp (fun s => eH bT lo7 hi8 s.1 s.2) (aA, i9)).bind (fun rr => jV rr bT lo7 hi8)

noncomputable def kE (aA : (List Int)) (a1 : Int) (b2 : Int) : Option (List Int) :=
  bE ((2 : Int) ≠ 0) <|
  lS aA a1 (0 : Int) (IntKind.i64.wrap (b2 - a1)) (IntKind.i64.wrap (Int.tdiv (IntKind.i64.wrap ((IntKind.i64.wrap (b2 - a1)) - (1 : Int))) (2 : Int)))

noncomputable def mH (GO : Int) : Option Int :=
  (lE (IntKind.u64.wrap GO)).bind fun x1 =>
  bE (0 ≤ x1) <|
  some (IntKind.u64.wrap ((1 : Int) * 2 ^ (min (Int.toNat x1) 64)))

noncomputable def mS (r0 : Int) : Option (Int × Int) :=
  bE (0 ≤ (13 : Int)) <|
  bE (0 ≤ (7 : Int)) <|
  bE (0 ≤ (17 : Int)) <|
  some (bS .xor .u64 (bS .xor .u64 (bS .xor .u64 r0 (IntKind.u64.wrap (r0 * 2 ^ (min (Int.toNat (13 : Int)) 64)))) (Int.fdiv (bS .xor .u64 r0 (IntKind.u64.wrap (r0 * 2 ^ (min (Int.toNat (13 : Int)) 64)))) (2 ^ (min (Int.toNat (7 : Int)) 64)))) (IntKind.u64.wrap ((bS .xor .u64 (bS .xor .u64 r0 (IntKind.u64.wrap (r0 * 2 ^ (min (Int.toNat (13 : Int)) 64)))) (Int.fdiv (bS .xor .u64 r0 (IntKind.u64.wrap (r0 * 2 ^ (min (Int.toNat (13 : Int)) 64)))) (2 ^ (min (Int.toNat (7 : Int)) 64)))) * 2 ^ (min (Int.toNat (17 : Int)) 64))), bS .xor .u64 (bS .xor .u64 (bS .xor .u64 r0 (IntKind.u64.wrap (r0 * 2 ^ (min (Int.toNat (13 : Int)) 64)))) (Int.fdiv (bS .xor .u64 r0 (IntKind.u64.wrap (r0 * 2 ^ (min (Int.toNat (13 : Int)) 64)))) (2 ^ (min (Int.toNat (7 : Int)) 64)))) (IntKind.u64.wrap ((bS .xor .u64 (bS .xor .u64 r0 (IntKind.u64.wrap (r0 * 2 ^ (min (Int.toNat (13 : Int)) 64)))) (Int.fdiv (bS .xor .u64 r0 (IntKind.u64.wrap (r0 * 2 ^ (min (Int.toNat (13 : Int)) 64)))) (2 ^ (min (Int.toNat (7 : Int)) 64)))) * 2 ^ (min (Int.toNat (17 : Int)) 64))))

noncomputable def fI (aA : List Int) (a1 : Int) (kV : Int) (mP : Int) (jL : Int) (idx9 : Int) (gO : Int) : Option ((List Int × Int × Int) ⊕ ((List Int))) :=
  bE (0 ≤ (IntKind.i64.wrap (a1 + gO)) ∧ (IntKind.i64.wrap (a1 + gO)) < ((List.length aA : Nat) : Int)) <|
  bE (0 ≤ idx9 ∧ idx9 < ((List.length aA : Nat) : Int)) <|
  bE (0 ≤ idx9 ∧ idx9 < ((List.length aA : Nat) : Int)) <|
  bE (0 ≤ (IntKind.i64.wrap (a1 + gO)) ∧ (IntKind.i64.wrap (a1 + gO)) < ((List.length aA : Nat) : Int)) <|
  some (.inl (List.set (List.set aA (Int.toNat idx9) (List.getD aA (Int.toNat (IntKind.i64.wrap (a1 + gO))) default)) (Int.toNat (IntKind.i64.wrap (a1 + gO))) (List.getD aA (Int.toNat idx9) default), mP, IntKind.i64.wrap (idx9 + (1 : Int))))

noncomputable def dH (a1 : Int) (kV : Int) (jL : Int) (aA : List Int) (mP : Int) (idx9 : Int) : Option ((List Int × Int × Int) ⊕ ((List Int))) :=
  bE ((4 : Int) ≠ 0) <|
  cond (decide (idx9 ≤ (IntKind.i64.wrap ((IntKind.i64.wrap (a1 + (IntKind.i64.wrap ((IntKind.i64.wrap (Int.tdiv kV (4 : Int))) * (2 : Int))))) + (1 : Int)))))
  ((mS mP).bind fun x9 =>
  cond (decide (kV ≤ (IntKind.i64.wrap (bS .and .u64 x9.1 (IntKind.u64.wrap (jL - (1 : Int)))))))
  (fI aA a1 kV x9.2 jL idx9 (IntKind.i64.wrap ((IntKind.i64.wrap (bS .and .u64 x9.1 (IntKind.u64.wrap (jL - (1 : Int))))) - kV)))
  (fI aA a1 kV x9.2 jL idx9 (IntKind.i64.wrap (bS .and .u64 x9.1 (IntKind.u64.wrap (jL - (1 : Int)))))))
  (some (.inr aA))

noncomputable def jY (aA : List Int) (a1 : Int) (kV : Int) (mP : Int) (jL : Int) (idx9 : Int) : Option (List Int) :=
  (lp (fun s => dH a1 kV jL s.1 s.2.1 s.2.2) (aA, mP, idx9)).bind (fun rr => some rr)

noncomputable def iJ (aA : (List Int)) (a1 : Int) (b2 : Int) : Option (List Int) :=
  cond (decide ((8 : Int) ≤ (IntKind.i64.wrap (b2 - a1))))
  ((mH (IntKind.i64.wrap (b2 - a1))).bind fun x3 =>
  bE ((4 : Int) ≠ 0) <|
  jY aA a1 (IntKind.i64.wrap (b2 - a1)) (IntKind.u64.wrap (IntKind.i64.wrap (b2 - a1))) x3 (IntKind.i64.wrap ((IntKind.i64.wrap (a1 + (IntKind.i64.wrap ((IntKind.i64.wrap (Int.tdiv (IntKind.i64.wrap (b2 - a1)) (4 : Int))) * (2 : Int))))) - (1 : Int))))
  (some aA)

noncomputable def gV (aA : (List Int)) (a1 : Int) (b2 : Int) (uR : Int) : Option ((Int × Int) × Int) :=
  bE (0 ≤ b2 ∧ b2 < ((List.length aA : Nat) : Int)) <|
  bE (0 ≤ a1 ∧ a1 < ((List.length aA : Nat) : Int)) <|
  (dF (List.getD aA (Int.toNat b2) default) (List.getD aA (Int.toNat a1) default)).bind fun x3 =>
  cond x3
  (some ((b2, a1), IntKind.i64.wrap (uR + (1 : Int))))
  (some ((a1, b2), uR))

noncomputable def jB (aA : (List Int)) (a1 : Int) (b2 : Int) (c3 : Int) (KW : Int) : Option (Int × Int) :=
  (gV aA a1 b2 KW).bind fun x1 =>
  (gV aA x1.1.2 c3 x1.2).bind fun x6 =>
  (gV aA x1.1.1 x6.1.1 x6.2).bind fun x11 =>
  some (x11.1.2, x11.2)

noncomputable def eA (aA : (List Int)) (a1 : Int) (KH : Int) : Option (Int × Int) :=
  (jB aA (IntKind.i64.wrap (a1 - (1 : Int))) a1 (IntKind.i64.wrap (a1 + (1 : Int))) KH).bind fun x1 =>
  some (x1.1, x1.2)

noncomputable def fW (aA : List Int) (nK : Int) (j11 : Int) : Option (Int × Int) :=
  cond (decide (nK = (0 : Int)))
  (some (j11, (1 : Int)))
  (cond (decide (nK = (12 : Int)))
  (some (j11, (2 : Int)))
  (some (j11, (0 : Int))))

noncomputable def gC (aA : List Int) (nK : Int) (i10 : Int) (j11 : Int) (k12 : Int) : Option (Int × Int) :=
  (jB aA i10 j11 k12 nK).bind fun x8 =>
  fW aA x8.2 x8.1

noncomputable def iV (aA : (List Int)) (a1 : Int) (b2 : Int) : Option (Int × Int) :=
  bE ((4 : Int) ≠ 0) <|
  bE ((4 : Int) ≠ 0) <|
  bE ((4 : Int) ≠ 0) <|
  cond (decide ((8 : Int) ≤ (IntKind.i64.wrap (b2 - a1))))
  (cond (decide ((50 : Int) ≤ (IntKind.i64.wrap (b2 - a1))))
  ((eA aA (IntKind.i64.wrap (a1 + (IntKind.i64.wrap ((IntKind.i64.wrap (Int.tdiv (IntKind.i64.wrap (b2 - a1)) (4 : Int))) * (1 : Int))))) 0).bind fun x14 =>
  (eA aA (IntKind.i64.wrap (a1 + (IntKind.i64.wrap ((IntKind.i64.wrap (Int.tdiv (IntKind.i64.wrap (b2 - a1)) (4 : Int))) * (2 : Int))))) x14.2).bind fun x19 =>
  (eA aA (IntKind.i64.wrap (a1 + (IntKind.i64.wrap ((IntKind.i64.wrap (Int.tdiv (IntKind.i64.wrap (b2 - a1)) (4 : Int))) * (3 : Int))))) x19.2).bind fun x24 =>
  gC aA x24.2 x14.1 x19.1 x24.1)
  (gC aA 0 (IntKind.i64.wrap (a1 + (IntKind.i64.wrap ((IntKind.i64.wrap (Int.tdiv (IntKind.i64.wrap (b2 - a1)) (4 : Int))) * (1 : Int))))) (IntKind.i64.wrap (a1 + (IntKind.i64.wrap ((IntKind.i64.wrap (Int.tdiv (IntKind.i64.wrap (b2 - a1)) (4 : Int))) * (2 : Int))))) (IntKind.i64.wrap (a1 + (IntKind.i64.wrap ((IntKind.i64.wrap (Int.tdiv (IntKind.i64.wrap (b2 - a1)) (4 : Int))) * (3 : Int)))))))
  (fW aA 0 (IntKind.i64.wrap (a1 + (IntKind.i64.wrap ((IntKind.i64.wrap (Int.tdiv (IntKind.i64.wrap (b2 - a1)) (4 : Int))) * (2 : Int))))))

noncomputable def dV  (aA : List Int) (i6 : Int) (j7 : Int) : Option ((List Int × Int × Int) ⊕ ((List Int))) :=
  cond (decide (i6 < j7))
  (bE (0 ≤ j7 ∧ j7 < ((List.length aA : Nat) : Int)) <|
  bE (0 ≤ i6 ∧ i6 < ((List.length aA : Nat) : Int)) <|
  bE (0 ≤ i6 ∧ i6 < ((List.length aA : Nat) : Int)) <|
  bE (0 ≤ j7 ∧ j7 < ((List.length aA : Nat) : Int)) <|
  some (.inl (List.set (List.set aA (Int.toNat i6) (List.getD aA (Int.toNat j7) default)) (Int.toNat j7) (List.getD aA (Int.toNat i6) default), IntKind.i64.wrap (i6 + (1 : Int)), IntKind.i64.wrap (j7 - (1 : Int)))))
  (some (.inr aA))

noncomputable def kG (aA : List Int) (i6 : Int) (j7 : Int) : Option (List Int) :=
  (lp (fun s => dV s.1 s.2.1 s.2.2) (aA, i6, j7)).bind (fun rr => some rr)

noncomputable def iQ (aA : (List Int)) (a1 : Int) (b2 : Int) : Option (List Int) :=
  kG aA a1 (IntKind.i64.wrap (b2 - (1 : Int)))

noncomputable def eV (aA : List Int) : Option (Bool × List Int) :=
  some (false, aA)

noncomputable def dW (aA : List Int) (a1 : Int) (b2 : Int) (i7 : Int) (j8 : Int) : Option ((List Int × Int × Int) ⊕ ((List Int) ⊕ (Bool × (List Int)))) :=
  some (.inl (aA, i7, IntKind.i64.wrap (j8 + (1 : Int))))

noncomputable def cS (a1 : Int) (b2 : Int) (i7 : Int) (j8 : Int) (aA : List Int) (j10 : Int) : Option ((List Int × Int) ⊕ ((List Int))) :=
  cond (decide (j10 < b2))
  (bE (0 ≤ j10 ∧ j10 < ((List.length aA : Nat) : Int)) <|
  bE (0 ≤ (IntKind.i64.wrap (j10 - (1 : Int))) ∧ (IntKind.i64.wrap (j10 - (1 : Int))) < ((List.length aA : Nat) : Int)) <|
  (dF (List.getD aA (Int.toNat j10) default) (List.getD aA (Int.toNat (IntKind.i64.wrap (j10 - (1 : Int)))) default)).bind fun x12 =>
  cond (!x12)
  (some (.inr aA))
  (bE (0 ≤ (IntKind.i64.wrap (j10 - (1 : Int))) ∧ (IntKind.i64.wrap (j10 - (1 : Int))) < ((List.length aA : Nat) : Int)) <|
  bE (0 ≤ j10 ∧ j10 < ((List.length aA : Nat) : Int)) <|
  bE (0 ≤ j10 ∧ j10 < ((List.length aA : Nat) : Int)) <|
  bE (0 ≤ (IntKind.i64.wrap (j10 - (1 : Int))) ∧ (IntKind.i64.wrap (j10 - (1 : Int))) < ((List.length aA : Nat) : Int)) <|
  some (.inl (List.set (List.set aA (Int.toNat j10) (List.getD aA (Int.toNat (IntKind.i64.wrap (j10 - (1 : Int)))) default)) (Int.toNat (IntKind.i64.wrap (j10 - (1 : Int)))) (List.getD aA (Int.toNat j10) default), IntKind.i64.wrap (j10 + (1 : Int))))))
  (some (.inr aA))

noncomputable def gZ (aA : List Int) (a1 : Int) (b2 : Int) (i7 : Int) (j8 : Int) (j10 : Int) : Option ((List Int × Int × Int) ⊕ ((List Int) ⊕ (Bool × (List Int)))) :=
  (lp (fun s => cS a1 b2 i7 j8 s.1 s.2) (aA, j10)).bind (fun rr => dW rr a1 b2 i7 j8)

noncomputable def cL (aA : List Int) (a1 : Int) (b2 : Int) (i7 : Int) (j8 : Int) : Option ((List Int × Int × Int) ⊕ ((List Int) ⊕ (Bool × (List Int)))) :=
  cond (decide ((2 : Int) ≤ (IntKind.i64.wrap (b2 - i7))))
  (gZ aA a1 b2 i7 j8 (IntKind.i64.wrap (i7 + (1 : Int))))
  (dW aA a1 b2 i7 j8)

noncomputable def cM (a1 : Int) (b2 : Int) (i7 : Int) (j8 : Int) (aA : List Int) (j9 : Int) : Option ((List Int × Int) ⊕ ((List Int))) :=
  cond (decide ((1 : Int) ≤ j9))
  (bE (0 ≤ j9 ∧ j9 < ((List.length aA : Nat) : Int)) <|
  bE (0 ≤ (IntKind.i64.wrap (j9 - (1 : Int))) ∧ (IntKind.i64.wrap (j9 - (1 : Int))) < ((List.length aA : Nat) : Int)) <|
  (dF (List.getD aA (Int.toNat j9) default) (List.getD aA (Int.toNat (IntKind.i64.wrap (j9 - (1 : Int)))) default)).bind fun x24 =>
  cond (!x24)
  (some (.inr aA))
  (bE (0 ≤ (IntKind.i64.wrap (j9 - (1 : Int))) ∧ (IntKind.i64.wrap (j9 - (1 : Int))) < ((List.length aA : Nat) : Int)) <|
  bE (0 ≤ j9 ∧ j9 < ((List.length aA : Nat) : Int)) <|
  bE (0 ≤ j9 ∧ j9 < ((List.length aA : Nat) : Int)) <|
  bE (0 ≤ (IntKind.i64.wrap (j9 - (1 : Int))) ∧ (IntKind.i64.wrap (j9 - (1 : Int))) < ((List.length aA : Nat) : Int)) <|
  some (.inl (List.set (List.set aA (Int.toNat j9) (List.getD aA (Int.toNat (IntKind.i64.wrap (j9 - (1 : Int)))) default)) (Int.toNat (IntKind.i64.wrap (j9 - (1 : Int)))) (List.getD aA (Int.toNat j9) default), IntKind.i64.wrap (j9 - (1 : Int))))))
  (some (.inr aA))

noncomputable def iA (aA : List Int) (a1 : Int) (b2 : Int) (i7 : Int) (j8 : Int) (j9 : Int) : Option ((List Int × Int × Int) ⊕ ((List Int) ⊕ (Bool × (List Int)))) :=
  (lp (fun s => cM a1 b2 i7 j8 s.1 s.2) (aA, j9)).bind (fun rr => cL rr a1 b2 i7 j8)

noncomputable def eW (aA : List Int) (a1 : Int) (b2 : Int) (i7 : Int) (j8 : Int) : Option ((List Int × Int × Int) ⊕ ((List Int) ⊕ (Bool × (List Int)))) :=
  cond (decide (i7 = b2))
  (some (.inr (.inr (true, aA))))
  (cond (decide ((IntKind.i64.wrap (b2 - a1)) < (50 : Int)))
  (some (.inr (.inr (false, aA))))
  (bE (0 ≤ (IntKind.i64.wrap (i7 - (1 : Int))) ∧ (IntKind.i64.wrap (i7 - (1 : Int))) < ((List.length aA : Nat) : Int)) <|
  bE (0 ≤ i7 ∧ i7 < ((List.length aA : Nat) : Int)) <|
  bE (0 ≤ i7 ∧ i7 < ((List.length aA : Nat) : Int)) <|
  bE (0 ≤ (IntKind.i64.wrap (i7 - (1 : Int))) ∧ (IntKind.i64.wrap (i7 - (1 : Int))) < ((List.length aA : Nat) : Int)) <|
  cond (decide ((2 : Int) ≤ (IntKind.i64.wrap (i7 - a1))))
  (iA (List.set (List.set aA (Int.toNat i7) (List.getD aA (Int.toNat (IntKind.i64.wrap (i7 - (1 : Int)))) default)) (Int.toNat (IntKind.i64.wrap (i7 - (1 : Int)))) (List.getD aA (Int.toNat i7) default)) a1 b2 i7 j8 (IntKind.i64.wrap (i7 - (1 : Int))))
  (cL (List.set (List.set aA (Int.toNat i7) (List.getD aA (Int.toNat (IntKind.i64.wrap (i7 - (1 : Int)))) default)) (Int.toNat (IntKind.i64.wrap (i7 - (1 : Int)))) (List.getD aA (Int.toNat i7) default)) a1 b2 i7 j8)))

noncomputable def cT (a1 : Int) (b2 : Int) (j8 : Int) (aA : List Int) (i7 : Int) : Option ((List Int × Int) ⊕ ((List Int × Int))) :=
  bE ((((decide (i7 < b2))) = true → 0 ≤ i7 ∧ i7 < ((List.length aA : Nat) : Int))) <|
  bE ((((decide (i7 < b2))) = true → 0 ≤ (IntKind.i64.wrap (i7 - (1 : Int))) ∧ (IntKind.i64.wrap (i7 - (1 : Int))) < ((List.length aA : Nat) : Int))) <|
  (dN (decide (i7 < b2)) (dF (List.getD aA (Int.toNat i7) default) (List.getD aA (Int.toNat (IntKind.i64.wrap (i7 - (1 : Int)))) default))).bind fun x34 =>
  cond ((decide (i7 < b2)) && (!x34))
  (some (.inl (aA, IntKind.i64.wrap (i7 + (1 : Int)))))
  (some (.inr (aA, i7)))

noncomputable def dM (aA : List Int) (a1 : Int) (b2 : Int) (i7 : Int) (j8 : Int) : Option ((List Int × Int × Int) ⊕ ((List Int) ⊕ (Bool × (List Int)))) :=
  (lp (fun s => cT a1 b2 j8 s.1 s.2) (aA, i7)).bind (fun rr => eW rr.1 a1 b2 rr.2 j8)

noncomputable def cB (a1 : Int) (b2 : Int) (aA : List Int) (i7 : Int) (j8 : Int) : Option ((List Int × Int × Int) ⊕ ((List Int) ⊕ (Bool × (List Int)))) :=
  cond (decide (j8 < (5 : Int)))
  (dM aA a1 b2 i7 j8)
  (some (.inr (.inl aA)))

noncomputable def hU (aA : List Int) (a1 : Int) (b2 : Int) (i7 : Int) (j8 : Int) : Option (Bool × List Int) :=
  (lp (fun s => cB a1 b2 s.1 s.2.1 s.2.2) (aA, i7, j8)).bind (Sum.elim (fun rr => eV rr) (fun rr => some (rr.1, rr.2)))

noncomputable def eY (aA : (List Int)) (a1 : Int) (b2 : Int) : Option (Bool × List Int) :=
  hU aA a1 b2 (IntKind.i64.wrap (a1 + (1 : Int))) (0 : Int)

noncomputable def jP (aA : List Int) (i9 : Int) : Option (Int × List Int) :=
  some (i9, aA)

noncomputable def dZ (aA : List Int) (a1 : Int) (i9 : Int) (j10 : Int) : Option ((List Int × Int × Int) ⊕ ((List Int × Int))) :=
  cond (decide (j10 < i9))
  (some (.inr (aA, i9)))
  (bE (0 ≤ j10 ∧ j10 < ((List.length aA : Nat) : Int)) <|
  bE (0 ≤ i9 ∧ i9 < ((List.length aA : Nat) : Int)) <|
  bE (0 ≤ i9 ∧ i9 < ((List.length aA : Nat) : Int)) <|
  bE (0 ≤ j10 ∧ j10 < ((List.length aA : Nat) : Int)) <|
  some (.inl (List.set (List.set aA (Int.toNat i9) (List.getD aA (Int.toNat j10) default)) (Int.toNat j10) (List.getD aA (Int.toNat i9) default), IntKind.i64.wrap (i9 + (1 : Int)), IntKind.i64.wrap (j10 - (1 : Int)))))

noncomputable def dX (a1 : Int) (i9 : Int) (aA : List Int) (j10 : Int) : Option ((List Int × Int) ⊕ ((List Int × Int))) :=
  bE ((((decide (i9 ≤ j10))) = true → 0 ≤ a1 ∧ a1 < ((List.length aA : Nat) : Int))) <|
  bE ((((decide (i9 ≤ j10))) = true → 0 ≤ j10 ∧ j10 < ((List.length aA : Nat) : Int))) <|
  (dN (decide (i9 ≤ j10)) (dF (List.getD aA (Int.toNat a1) default) (List.getD aA (Int.toNat j10) default))).bind fun x12 =>
  cond ((decide (i9 ≤ j10)) && x12)
  (some (.inl (aA, IntKind.i64.wrap (j10 - (1 : Int)))))
  (some (.inr (aA, j10)))

noncomputable def jR (aA : List Int) (a1 : Int) (i9 : Int) (j10 : Int) : Option ((List Int × Int × Int) ⊕ ((List Int × Int))) :=
  (lp (fun s => dX a1 i9 s.1 s.2) (aA, j10)).bind (fun rr => dZ rr.1 a1 i9 rr.2)

noncomputable def gR (aA : List Int) (a1 : Int) (i9 : Int) (j10 : Int) : Option ((List Int × Int × Int) ⊕ ((List Int × Int))) :=
  jR aA a1 i9 j10

noncomputable def dY (a1 : Int) (j10 : Int) (aA : List Int) (i9 : Int) : Option ((List Int × Int) ⊕ ((List Int × Int))) :=
  bE ((((decide (i9 ≤ j10))) = true → 0 ≤ a1 ∧ a1 < ((List.length aA : Nat) : Int))) <|
  bE ((((decide (i9 ≤ j10))) = true → 0 ≤ i9 ∧ i9 < ((List.length aA : Nat) : Int))) <|
  (dN (decide (i9 ≤ j10)) (dF (List.getD aA (Int.toNat a1) default) (List.getD aA (Int.toNat i9) default))).bind fun x18 =>
  cond ((decide (i9 ≤ j10)) && (!x18))
  (some (.inl (aA, IntKind.i64.wrap (i9 + (1 : Int)))))
  (some (.inr (aA, i9)))

noncomputable def jO (aA : List Int) (a1 : Int) (i9 : Int) (j10 : Int) : Option ((List Int × Int × Int) ⊕ ((List Int × Int))) :=
  (lp (fun s => dY a1 j10 s.1 s.2) (aA, i9)).bind (fun rr => gR rr.1 a1 rr.2 j10)

noncomputable def dB (a1 : Int) (aA : List Int) (i9 : Int) (j10 : Int) : Option ((List Int × Int × Int) ⊕ ((List Int × Int))) :=
  jO aA a1 i9 j10

noncomputable def jM (aA : List Int) (a1 : Int) (i9 : Int) (j10 : Int) : Option (Int × List Int) :=
  (lp (fun s => dB a1 s.1 s.2.1 s.2.2) (aA, i9, j10)).bind (fun rr => jP rr.1 rr.2)

noncomputable def fG (aA : (List Int)) (a1 : Int) (b2 : Int) (cN : Int) : Option (Int × List Int) :=
  bE (0 ≤ cN ∧ cN < ((List.length aA : Nat) : Int)) <|
  bE (0 ≤ a1 ∧ a1 < ((List.length aA : Nat) : Int)) <|
  bE (0 ≤ a1 ∧ a1 < ((List.length aA : Nat) : Int)) <|
  bE (0 ≤ cN ∧ cN < ((List.length aA : Nat) : Int)) <|
  jM (List.set (List.set aA (Int.toNat a1) (List.getD aA (Int.toNat cN) default)) (Int.toNat cN) (List.getD aA (Int.toNat a1) default)) a1 (IntKind.i64.wrap (a1 + (1 : Int))) (IntKind.i64.wrap (b2 - (1 : Int)))

noncomputable def jI (aA : List Int) (a1 : Int) (j11 : Int) : Option ((Int × Bool) × List Int) :=
  bE (0 ≤ a1 ∧ a1 < ((List.length aA : Nat) : Int)) <|
  bE (0 ≤ j11 ∧ j11 < ((List.length aA : Nat) : Int)) <|
  bE (0 ≤ j11 ∧ j11 < ((List.length aA : Nat) : Int)) <|
  bE (0 ≤ a1 ∧ a1 < ((List.length aA : Nat) : Int)) <|
  some ((j11, false), (List.set (List.set aA (Int.toNat j11) (List.getD aA (Int.toNat a1) default)) (Int.toNat a1) (List.getD aA (Int.toNat j11) default)))

noncomputable def fC (aA : List Int) (a1 : Int) (i10 : Int) (j11 : Int) : Option ((List Int × Int × Int) ⊕ ((List Int × Int))) :=
  cond (decide (j11 < i10))
  (some (.inr (aA, j11)))
  (bE (0 ≤ j11 ∧ j11 < ((List.length aA : Nat) : Int)) <|
  bE (0 ≤ i10 ∧ i10 < ((List.length aA : Nat) : Int)) <|
  bE (0 ≤ i10 ∧ i10 < ((List.length aA : Nat) : Int)) <|
  bE (0 ≤ j11 ∧ j11 < ((List.length aA : Nat) : Int)) <|
  some (.inl (List.set (List.set aA (Int.toNat i10) (List.getD aA (Int.toNat j11) default)) (Int.toNat j11) (List.getD aA (Int.toNat i10) default), IntKind.i64.wrap (i10 + (1 : Int)), IntKind.i64.wrap (j11 - (1 : Int)))))

noncomputable def fA (a1 : Int) (i10 : Int) (aA : List Int) (j11 : Int) : Option ((List Int × Int) ⊕ ((List Int × Int))) :=
  bE ((((decide (i10 ≤ j11))) = true → 0 ≤ j11 ∧ j11 < ((List.length aA : Nat) : Int))) <|
  bE ((((decide (i10 ≤ j11))) = true → 0 ≤ a1 ∧ a1 < ((List.length aA : Nat) : Int))) <|
  (dN (decide (i10 ≤ j11)) (dF (List.getD aA (Int.toNat j11) default) (List.getD aA (Int.toNat a1) default))).bind fun x25 =>
  cond ((decide (i10 ≤ j11)) && (!x25))
  (some (.inl (aA, IntKind.i64.wrap (j11 - (1 : Int)))))
  (some (.inr (aA, j11)))

noncomputable def lB (aA : List Int) (a1 : Int) (i10 : Int) (j11 : Int) : Option ((List Int × Int × Int) ⊕ ((List Int × Int))) :=
  (lp (fun s => fA a1 i10 s.1 s.2) (aA, j11)).bind (fun rr => fC rr.1 a1 i10 rr.2)

noncomputable def jC (aA : List Int) (a1 : Int) (i10 : Int) (j11 : Int) : Option ((List Int × Int × Int) ⊕ ((List Int × Int))) :=
  lB aA a1 i10 j11

noncomputable def fF (a1 : Int) (j11 : Int) (aA : List Int) (i10 : Int) : Option ((List Int × Int) ⊕ ((List Int × Int))) :=
  bE ((((decide (i10 ≤ j11))) = true → 0 ≤ i10 ∧ i10 < ((List.length aA : Nat) : Int))) <|
  bE ((((decide (i10 ≤ j11))) = true → 0 ≤ a1 ∧ a1 < ((List.length aA : Nat) : Int))) <|
  (dN (decide (i10 ≤ j11)) (dF (List.getD aA (Int.toNat i10) default) (List.getD aA (Int.toNat a1) default))).bind fun x31 =>
  cond ((decide (i10 ≤ j11)) && x31)
  (some (.inl (aA, IntKind.i64.wrap (i10 + (1 : Int)))))
  (some (.inr (aA, i10)))

noncomputable def lM (aA : List Int) (a1 : Int) (i10 : Int) (j11 : Int) : Option ((List Int × Int × Int) ⊕ ((List Int × Int))) :=
  (lp (fun s => fF a1 j11 s.1 s.2) (aA, i10)).bind (fun rr => jC rr.1 a1 rr.2 j11)

noncomputable def dU (a1 : Int) (aA : List Int) (i10 : Int) (j11 : Int) : Option ((List Int × Int × Int) ⊕ ((List Int × Int))) :=
  lM aA a1 i10 j11

noncomputable def lP (aA : List Int) (a1 : Int) (i10 : Int) (j11 : Int) : Option ((Int × Bool) × List Int) :=
  (lp (fun s => dU a1 s.1 s.2.1 s.2.2) (aA, i10, j11)).bind (fun rr => jI rr.1 a1 rr.2)

noncomputable def eZ (aA : List Int) (a1 : Int) (i10 : Int) (j11 : Int) : Option ((Int × Bool) × List Int) :=
  cond (decide (j11 < i10))
  (bE (0 ≤ a1 ∧ a1 < ((List.length aA : Nat) : Int)) <|
  bE (0 ≤ j11 ∧ j11 < ((List.length aA : Nat) : Int)) <|
  bE (0 ≤ j11 ∧ j11 < ((List.length aA : Nat) : Int)) <|
  bE (0 ≤ a1 ∧ a1 < ((List.length aA : Nat) : Int)) <|
  some ((j11, true), (List.set (List.set aA (Int.toNat j11) (List.getD aA (Int.toNat a1) default)) (Int.toNat a1) (List.getD aA (Int.toNat j11) default))))
  (bE (0 ≤ j11 ∧ j11 < ((List.length aA : Nat) : Int)) <|
  bE (0 ≤ i10 ∧ i10 < ((List.length aA : Nat) : Int)) <|
  bE (0 ≤ i10 ∧ i10 < ((List.length aA : Nat) : Int)) <|
  bE (0 ≤ j11 ∧ j11 < ((List.length aA : Nat) : Int)) <|
  lP (List.set (List.set aA (Int.toNat i10) (List.getD aA (Int.toNat j11) default)) (Int.toNat j11) (List.getD aA (Int.toNat i10) default)) a1 (IntKind.i64.wrap (i10 + (1 : Int))) (IntKind.i64.wrap (j11 - (1 : Int))))

noncomputable def fD (a1 : Int) (i10 : Int) (aA : List Int) (j11 : Int) : Option ((List Int × Int) ⊕ ((List Int × Int))) :=
  bE ((((decide (i10 ≤ j11))) = true → 0 ≤ j11 ∧ j11 < ((List.length aA : Nat) : Int))) <|
  bE ((((decide (i10 ≤ j11))) = true → 0 ≤ a1 ∧ a1 < ((List.length aA : Nat) : Int))) <|
  (dN (decide (i10 ≤ j11)) (dF (List.getD aA (Int.toNat j11) default) (List.getD aA (Int.toNat a1) default))).bind fun x37 =>
  cond ((decide (i10 ≤ j11)) && (!x37))
  (some (.inl (aA, IntKind.i64.wrap (j11 - (1 : Int)))))
  (some (.inr (aA, j11)))

noncomputable def lQ (aA : List Int) (a1 : Int) (i10 : Int) (j11 : Int) : Option ((Int × Bool) × List Int) :=
  (lp (fun s => fD a1 i10 s.1 s.2) (aA, j11)).bind (fun rr => eZ rr.1 a1 i10 rr.2)

noncomputable def jF (aA : List Int) (a1 : Int) (i10 : Int) (j11 : Int) : Option ((Int × Bool) × List Int) :=
  lQ aA a1 i10 j11

noncomputable def eU (a1 : Int) (j11 : Int) (aA : List Int) (i10 : Int) : Option ((List Int × Int) ⊕ ((List Int × Int))) :=
  bE ((((decide (i10 ≤ j11))) = true → 0 ≤ i10 ∧ i10 < ((List.length aA : Nat) : Int))) <|
  bE ((((decide (i10 ≤ j11))) = true → 0 ≤ a1 ∧ a1 < ((List.length aA : Nat) : Int))) <|
  (dN (decide (i10 ≤ j11)) (dF (List.getD aA (Int.toNat i10) default) (List.getD aA (Int.toNat a1) default))).bind fun x43 =>
  cond ((decide (i10 ≤ j11)) && x43)
  (some (.inl (aA, IntKind.i64.wrap (i10 + (1 : Int)))))
  (some (.inr (aA, i10)))

noncomputable def gM (aA : List Int) (a1 : Int) (i10 : Int) (j11 : Int) : Option ((Int × Bool) × List Int) :=
  (lp (fun s => eU a1 j11 s.1 s.2) (aA, i10)).bind (fun rr => jF rr.1 a1 rr.2 j11)

noncomputable def iE (aA : (List Int)) (a1 : Int) (b2 : Int) (cN : Int) : Option ((Int × Bool) × List Int) :=
  bE (0 ≤ cN ∧ cN < ((List.length aA : Nat) : Int)) <|
  bE (0 ≤ a1 ∧ a1 < ((List.length aA : Nat) : Int)) <|
  bE (0 ≤ a1 ∧ a1 < ((List.length aA : Nat) : Int)) <|
  bE (0 ≤ cN ∧ cN < ((List.length aA : Nat) : Int)) <|
  gM (List.set (List.set aA (Int.toNat a1) (List.getD aA (Int.toNat cN) default)) (Int.toNat cN) (List.getD aA (Int.toNat a1) default)) a1 (IntKind.i64.wrap (a1 + (1 : Int))) (IntKind.i64.wrap (b2 - (1 : Int)))

noncomputable def iO (rec : (List Int) → Int → Int → Int → Option (List Int)) (aA : List Int) (a1 : Int) (b2 : Int) (cE : Int) (bZ : Bool) (bQ : Bool) (eB : Int) (gU : Int) : Option ((List Int × Int × Int × Int × Bool × Bool) ⊕ ((List Int))) :=
  bE ((((decide ((0 : Int) < a1))) = true → 0 ≤ (IntKind.i64.wrap (a1 - (1 : Int))) ∧ (IntKind.i64.wrap (a1 - (1 : Int))) < ((List.length aA : Nat) : Int))) <|
  bE ((((decide ((0 : Int) < a1))) = true → 0 ≤ gU ∧ gU < ((List.length aA : Nat) : Int))) <|
  (dN (decide ((0 : Int) < a1)) (dF (List.getD aA (Int.toNat (IntKind.i64.wrap (a1 - (1 : Int)))) default) (List.getD aA (Int.toNat gU) default))).bind fun x16 =>
  cond ((decide ((0 : Int) < a1)) && (!x16))
  ((fG aA a1 b2 gU).bind fun x20 =>
  some (.inl (x20.2, x20.1, b2, cE, bZ, bQ)))
  ((iE aA a1 b2 gU).bind fun x23 =>
  bE ((8 : Int) ≠ 0) <|
  cond (decide ((IntKind.i64.wrap (x23.1.1 - a1)) < (IntKind.i64.wrap (b2 - x23.1.1))))
  ((rec x23.2 a1 x23.1.1 cE).bind fun x28 =>
  some (.inl (x28, IntKind.i64.wrap (x23.1.1 + (1 : Int)), b2, cE, decide ((IntKind.i64.wrap (Int.tdiv eB (8 : Int))) ≤ (IntKind.i64.wrap (x23.1.1 - a1))), x23.1.2)))
  ((rec x23.2 (IntKind.i64.wrap (x23.1.1 + (1 : Int))) b2 cE).bind fun x31 =>
  some (.inl (x31, a1, x23.1.1, cE, decide ((IntKind.i64.wrap (Int.tdiv eB (8 : Int))) ≤ (IntKind.i64.wrap (b2 - x23.1.1))), x23.1.2))))

noncomputable def iL (rec : (List Int) → Int → Int → Int → Option (List Int)) (aA : List Int) (a1 : Int) (b2 : Int) (cE : Int) (bZ : Bool) (bQ : Bool) (eB : Int) (gU : Int) (HE : Int) : Option ((List Int × Int × Int × Int × Bool × Bool) ⊕ ((List Int))) :=
  cond ((bZ && bQ) && (decide (HE = (1 : Int))))
  ((eY aA a1 b2).bind fun x35 =>
  cond x35.1
  (some (.inr x35.2))
  (iO rec x35.2 a1 b2 cE bZ bQ eB gU))
  (iO rec aA a1 b2 cE bZ bQ eB gU)

noncomputable def iN (rec : (List Int) → Int → Int → Int → Option (List Int)) (aA : List Int) (a1 : Int) (b2 : Int) (cE : Int) (bZ : Bool) (bQ : Bool) (eB : Int) : Option ((List Int × Int × Int × Int × Bool × Bool) ⊕ ((List Int))) :=
  (iV aA a1 b2).bind fun x9 =>
  cond (decide (x9.2 = (2 : Int)))
  ((iQ aA a1 b2).bind fun x40 =>
  iL rec x40 a1 b2 cE bZ bQ eB (IntKind.i64.wrap ((IntKind.i64.wrap (b2 - (1 : Int))) - (IntKind.i64.wrap (x9.1 - a1)))) (1 : Int))
  (iL rec aA a1 b2 cE bZ bQ eB x9.1 x9.2)

noncomputable def eP (rec : (List Int) → Int → Int → Int → Option (List Int))  (aA : List Int) (a1 : Int) (b2 : Int) (cE : Int) (bZ : Bool) (bQ : Bool) : Option ((List Int × Int × Int × Int × Bool × Bool) ⊕ ((List Int))) :=
  cond (decide ((IntKind.i64.wrap (b2 - a1)) ≤ (12 : Int)))
  ((iK aA a1 b2).bind fun x2 =>
  some (.inr x2))
  (cond (decide (cE = (0 : Int)))
  ((kE aA a1 b2).bind fun x6 =>
  some (.inr x6))
  (cond (!bZ)
  ((iJ aA a1 b2).bind fun x44 =>
  iN rec x44 a1 b2 (IntKind.i64.wrap (cE - (1 : Int))) bZ bQ (IntKind.i64.wrap (b2 - a1)))
  (iN rec aA a1 b2 cE bZ bQ (IntKind.i64.wrap (b2 - a1)))))

noncomputable def mD (rec : (List Int) → Int → Int → Int → Option (List Int)) (aA : List Int) (a1 : Int) (b2 : Int) (cE : Int) (bZ : Bool) (bQ : Bool) : Option (List Int) :=
  (lp (fun s => eP rec s.1 s.2.1 s.2.2.1 s.2.2.2.1 s.2.2.2.2.1 s.2.2.2.2.2) (aA, a1, b2, cE, bZ, bQ)).bind (fun rr => some rr)

noncomputable def gT (rec : (List Int) → Int → Int → Int → Option (List Int)) (aA : (List Int)) (a1 : Int) (b2 : Int) (cE : Int) : Option (List Int) :=
  mD rec aA a1 b2 cE true true

noncomputable def dR  : Nat → (List Int) → Int → Int → Int → Option (List Int)
  | 0 => fun _ _ _ _ => none
  | k + 1 => gT (dR k)

noncomputable def kK (aA : (List Int)) (a1 : Int) (b2 : Int) (cE : Int) : Option (List Int) := VN (fun k => dR k aA a1 b2 cE)

noncomputable def gS (x0 : (List Int)) : Option (List Int) :=
  (lE (IntKind.u64.wrap ((List.length x0 : Nat) : Int))).bind fun x1 =>
  (kK x0 (0 : Int) ((List.length x0 : Nat) : Int) x1).bind fun x4 =>
  some x4

noncomputable def lK (s0 : List Int) : Option (List Int) :=
  some s0

noncomputable def nG (s0 : List Int) (k3 : Int) : Option ((List Int × Int) ⊕ ((List Int) ⊕ (List Int))) :=
  some (.inl (s0, IntKind.i64.wrap (k3 + (1 : Int))))

noncomputable def lC (s0 : List Int) (k3 : Int) : Option ((List Int × Int) ⊕ ((List Int) ⊕ (List Int))) :=
  bE (0 ≤ k3 ∧ k3 ≤ ((List.length s0 : Nat) : Int)) <|
  bE (0 ≤ k3 ∧ k3 ≤ ((List.length (kR (0 + Int.toNat k3) s0) : Nat) : Int)) <|
  bE (Int.toNat k3 ≤ List.length (kR (0 + Int.toNat k3) s0)) <|
  some (.inr (.inr (List.take (Int.toNat k3) (kR (0 + Int.toNat k3) s0))))

noncomputable def jQ (s0 : List Int) (k3 : Int) (k25 : Int) (s24o : Nat) (s24n : Nat) : Option ((List Int × Int × Int) ⊕ ((List Int × Int))) :=
  some (.inl (s0, k3, IntKind.i64.wrap (k25 + (1 : Int))))

noncomputable def fV (s24o : Nat) (s24n : Nat) (s0 : List Int) (k3 : Int) (k25 : Int) : Option ((List Int × Int × Int) ⊕ ((List Int × Int))) :=
  cond (decide (k25 < ((s24n : Nat) : Int)))
  (bE (0 ≤ k25 ∧ k25 < ((s24n : Nat) : Int)) <|
  bE ((s24o + Int.toNat k25) < List.length s0) <|
  bE (0 ≤ (IntKind.i64.wrap (k25 - (1 : Int))) ∧ (IntKind.i64.wrap (k25 - (1 : Int))) < ((s24n : Nat) : Int)) <|
  bE ((s24o + Int.toNat (IntKind.i64.wrap (k25 - (1 : Int)))) < List.length s0) <|
  cond (!decide ((List.getD s0 (s24o + Int.toNat k25) default) = (List.getD s0 (s24o + Int.toNat (IntKind.i64.wrap (k25 - (1 : Int)))) default)))
  (bE (0 ≤ k25 ∧ k25 < ((s24n : Nat) : Int)) <|
  bE ((s24o + Int.toNat k25) < List.length s0) <|
  bE (0 ≤ k3 ∧ k3 < ((List.length s0 : Nat) : Int)) <|
  jQ (List.set s0 (Int.toNat k3) (List.getD s0 (s24o + Int.toNat k25) default)) (IntKind.i64.wrap (k3 + (1 : Int))) k25 s24o s24n)
  (jQ s0 k3 k25 s24o s24n))
  (some (.inr (s0, k3)))

noncomputable def nH (s0 : List Int) (k3 : Int) (k25 : Int) (s24o : Nat) (s24n : Nat) : Option ((List Int × Int) ⊕ ((List Int) ⊕ (List Int))) :=
  (lp (fun s => fV s24o s24n s.1 s.2.1 s.2.2) (s0, k3, k25)).bind (fun rr => lC rr.1 rr.2)

noncomputable def iG  (s0 : List Int) (k3 : Int) : Option ((List Int × Int) ⊕ ((List Int) ⊕ (List Int))) :=
  cond (decide (k3 < ((List.length s0 : Nat) : Int)))
  (bE (0 ≤ k3 ∧ k3 < ((List.length s0 : Nat) : Int)) <|
  bE (0 ≤ (IntKind.i64.wrap (k3 - (1 : Int))) ∧ (IntKind.i64.wrap (k3 - (1 : Int))) < ((List.length s0 : Nat) : Int)) <|
  cond (decide ((List.getD s0 (Int.toNat k3) default) = (List.getD s0 (Int.toNat (IntKind.i64.wrap (k3 - (1 : Int)))) default)))
  (bE (0 ≤ k3 ∧ k3 ≤ ((List.length s0 : Nat) : Int)) <|
  nH s0 k3 (1 : Int) (0 + Int.toNat k3) (List.length s0 - Int.toNat k3))
  (nG s0 k3))
  (some (.inr (.inl s0)))

noncomputable def nE (s0 : List Int) (k3 : Int) : Option (List Int) :=
  (lp (fun s => iG s.1 s.2) (s0, k3)).bind (Sum.elim (fun rr => lK rr) (fun rr => some rr))

noncomputable def kF (s0 : (List Int)) : Option (List Int) :=
  cond (decide (((List.length s0 : Nat) : Int) < (2 : Int)))
  (some s0)
  (nE s0 (1 : Int))

noncomputable def qU (t7c0 : (List aE)) (out3 : List Int) (t8 : aE) : Option ((List Int) ⊕ (List Int)) :=
  bE ((List.length out3 + List.length ([t8.At])) * 8 ≤ 140737488355328 ∧ List.length out3 + List.length ([t8.At]) ≤ 9223372036854775807) <|
  some (.inl (out3 ++ ([t8.At])))

noncomputable def tS (out3 : List Int) (t7c0 : (List aE)) : Option (List Int) :=
  (mX (fun st t8 => rnd (fun (s : List Int) => qU t7c0 s t8) st) t7c0 (.inl out3)).bind (Sum.elim (fun (s : List Int) =>
  ((gS s).bind fun x10 =>
  (kF x10).bind fun x13 =>
  some x13))
  (fun (s : List Int) =>
  (none)))

noncomputable def pR (l0 : (List aE)) : Option (List Int) :=
  (qN l0).bind fun x3 =>
  tS ([] : List Int) x3

noncomputable def pH (x0 : Int) : Option Bool :=
  some (!decide (x0 = x0))

noncomputable def jH (x0 : (List Int)) (gF : Int) (n6 : Int) (i7 : Int) : Option (Int × Bool) :=
  bE ((((decide (i7 < n6))) = true → 0 ≤ i7 ∧ i7 < ((List.length x0 : Nat) : Int))) <|
  bE ((((!(decide ((List.getD x0 (Int.toNat i7) default) = gF))) && (decide (i7 < n6))) = true → 0 ≤ i7 ∧ i7 < ((List.length x0 : Nat) : Int))) <|
  (dN ((!(decide ((List.getD x0 (Int.toNat i7) default) = gF))) && (decide (i7 < n6))) (pH (List.getD x0 (Int.toNat i7) default))).bind fun x3 =>
  (dN (x3 && ((!(decide ((List.getD x0 (Int.toNat i7) default) = gF))) && (decide (i7 < n6)))) (pH gF)).bind fun x6 =>
  some (i7, (decide (i7 < n6)) && ((decide ((List.getD x0 (Int.toNat i7) default) = gF)) || (x3 && x6)))

noncomputable def fB (x0 : (List Int)) (gF : Int) (n6 : Int) (i7 : Int) (j8 : Int) : Option ((Int × Int) ⊕ (Int)) :=
  cond (decide (i7 < j8))
  (bE (0 ≤ (1 : Int)) <|
  bE (0 ≤ (IntKind.i64.wrap (Int.fdiv (IntKind.u64.wrap (IntKind.i64.wrap (i7 + j8))) (2 ^ (min (Int.toNat (1 : Int)) 64)))) ∧ (IntKind.i64.wrap (Int.fdiv (IntKind.u64.wrap (IntKind.i64.wrap (i7 + j8))) (2 ^ (min (Int.toNat (1 : Int)) 64)))) < ((List.length x0 : Nat) : Int)) <|
  (dF (List.getD x0 (Int.toNat (IntKind.i64.wrap (Int.fdiv (IntKind.u64.wrap (IntKind.i64.wrap (i7 + j8))) (2 ^ (min (Int.toNat (1 : Int)) 64))))) default) gF).bind fun x12 =>
  cond x12
  (some (.inl (IntKind.i64.wrap ((IntKind.i64.wrap (Int.fdiv (IntKind.u64.wrap (IntKind.i64.wrap (i7 + j8))) (2 ^ (min (Int.toNat (1 : Int)) 64)))) + (1 : Int)), j8)))
  (some (.inl (i7, IntKind.i64.wrap (Int.fdiv (IntKind.u64.wrap (IntKind.i64.wrap (i7 + j8))) (2 ^ (min (Int.toNat (1 : Int)) 64)))))))
  (some (.inr i7))

noncomputable def lH (x0 : (List Int)) (gF : Int) (n6 : Int) (i7 : Int) (j8 : Int) : Option (Int × Bool) :=
  (lp (fun s => fB x0 gF n6 s.1 s.2) (i7, j8)).bind (fun rr => jH x0 gF n6 rr)

noncomputable def fL (x0 : (List Int)) (gF : Int) : Option (Int × Bool) :=
  lH x0 gF ((List.length x0 : Nat) : Int) (0 : Int) ((List.length x0 : Nat) : Int)

noncomputable def uI (l0 : (List aE)) (n1 : Int) (t2 : Int) : Option (Int × Int) :=
  (tF l0 n1).bind fun x1 =>
  cond (!decide (x1 = (0 : Int)))
  (some ((0 : Int), x1))
  (cond ((decide (t2 < (0 : Int))) || (decide ((1125899906842624 : Int) < t2)))
  (some ((0 : Int), (13 : Int)))
  (cond (decide (t2 = (1125899906842624 : Int)))
  (some (t2, (0 : Int)))
  ((pR l0).bind fun x7 =>
  (fL x7 t2).bind fun x10 =>
  cond (decide ((if (IntKind.i64.wrap ((IntKind.i64.wrap (x10.1 - n1)) + (1 : Int))) > (0 : Int) then (IntKind.i64.wrap ((IntKind.i64.wrap (x10.1 - n1)) + (1 : Int))) else (0 : Int)) = x10.1))
  (some (t2, (0 : Int)))
  (bE (0 ≤ (if (IntKind.i64.wrap ((IntKind.i64.wrap (x10.1 - n1)) + (1 : Int))) > (0 : Int) then (IntKind.i64.wrap ((IntKind.i64.wrap (x10.1 - n1)) + (1 : Int))) else (0 : Int)) ∧ (if (IntKind.i64.wrap ((IntKind.i64.wrap (x10.1 - n1)) + (1 : Int))) > (0 : Int) then (IntKind.i64.wrap ((IntKind.i64.wrap (x10.1 - n1)) + (1 : Int))) else (0 : Int)) < ((List.length x7 : Nat) : Int)) <|
  some (List.getD x7 (Int.toNat (if (IntKind.i64.wrap ((IntKind.i64.wrap (x10.1 - n1)) + (1 : Int))) > (0 : Int) then (IntKind.i64.wrap ((IntKind.i64.wrap (x10.1 - n1)) + (1 : Int))) else (0 : Int))) default, (0 : Int))))))

noncomputable def oR (w0 : bY) (l1 : (List aE)) (t2 : Int) : Option (Int × Int) :=
  (qM w0 l1 t2).bind fun x1 =>
  cond (!decide (x1 = (0 : Int)))
  (some ((0 : Int), x1))
  (cond (decide (w0.Kind = (2 : Int)))
  ((AD w0.Size w0.Hop t2).bind fun x6 =>
  some (if t2 < x6.1 then t2 else x6.1, x6.2))
  (cond (decide (w0.Kind = (3 : Int)))
  ((uI l1 w0.Size t2).bind fun x10 =>
  some (x10.1, x10.2))
  (some (t2, (0 : Int)))))

noncomputable def BV (l0 : List aE) : Option (List aE) :=
  some l0

noncomputable def qK (r1 : (List aI)) (t9 : (List aB)) (t10 : Int) (l0 : List aE) (t11 : Int) : Option ((List aE × Int) ⊕ ((List aE))) :=
  cond (decide (t11 < t10))
  (bE (0 ≤ t11 ∧ t11 < ((List.length t9 : Nat) : Int)) <|
  (tV r1).bind fun x7 =>
  bE ((List.length l0 + List.length ([aE.mk x7 ((List.getD t9 (Int.toNat t11) default).At) ((List.getD t9 (Int.toNat t11) default).Net)])) * 40 ≤ 140737488355328 ∧ List.length l0 + List.length ([aE.mk x7 ((List.getD t9 (Int.toNat t11) default).At) ((List.getD t9 (Int.toNat t11) default).Net)]) ≤ 9223372036854775807) <|
  some (.inl (l0 ++ ([aE.mk x7 ((List.getD t9 (Int.toNat t11) default).At) ((List.getD t9 (Int.toNat t11) default).Net)]), IntKind.i64.wrap (t11 + (1 : Int)))))
  (some (.inr l0))

noncomputable def BM (l0 : List aE) (r1 : (List aI)) (t9 : (List aB)) (t10 : Int) (t11 : Int) : Option (List aE) :=
  (lp (fun s => qK r1 t9 t10 s.1 s.2) (l0, t11)).bind (fun rr => BV rr)

noncomputable def zZ (l0 : (List aE)) (r1 : (List aI)) (f2 : (List aB)) : Option (List aE) :=
  BM l0 r1 f2 ((List.length f2 : Nat) : Int) (0 : Int)

noncomputable def oU (by1 : (List aB) → Option ((List aB) × Int)) (mG : (List aE)) (t4 : (List aE)) (t5 : Int) (out6 : List aE) (t14 : (List aI)) (t15 : (List aB)) : Option (((List aE) × Int × List aE) ⊕ ((List aE) × Int × List aE)) :=
  (by1 t15).bind fun x8 =>
  cond (!decide (x8.2 = (0 : Int)))
  (some (.inr ([], x8.2, out6)))
  ((zZ out6 t14 x8.1).bind fun x12 =>
  cond (decide ((4096 : Int) < ((List.length x12 : Nat) : Int)))
  (some (.inr ([], (7 : Int), x12)))
  (some (.inl (t4, t5, x12))))

noncomputable def xK (by1 : (List aB) → Option ((List aB) × Int)) (t4 : (List aE)) (t5 : Int) (out6 : List aE) (mG : (List aE)) : Option ((List aE) × Int) :=
  (nS (fun st t14 t15 => rnd (fun (s : (List aE) × Int × List aE) => oU by1 mG s.1 s.2.1 s.2.2 t14 t15) st) mG (.inl (t4, t5, out6))).bind (Sum.elim (fun (s : (List aE) × Int × List aE) =>
  (some (s.2.2, (0 : Int))))
  (fun (s : (List aE) × Int × List aE) =>
  (some (s.1, s.2.1))))

noncomputable def uS (l0 : (List aE)) (by1 : (List aB) → Option ((List aB) × Int)) : Option ((List aE) × Int) :=
  (qL l0).bind fun x5 =>
  xK by1 ([]) 0 ([] : List aE) x5

noncomputable def AP (l0 : (List aE)) (by1 : (List aB) → Option ((List aB) × Int)) : Option ((List aE) × Int) :=
  (oY l0).bind fun x1 =>
  cond (!x1)
  (some ([], (2 : Int)))
  ((uS l0 by1).bind fun x5 =>
  some (x5.1, x5.2))

noncomputable def iR (s0 : (List aB)) : Option (List aB) :=
  bE (List.length s0 * 16 ≤ 140737488355328 ∧ List.length s0 ≤ 9223372036854775807) <|
  some s0

noncomputable def uZ (f0 : (List aB)) : Option ((List aB) × Int) :=
  (nQ f0).bind fun x1 =>
  cond (!x1)
  (some ([], (7 : Int)))
  (some (f0, (0 : Int)))

noncomputable def xC (f0 : (List aB)) (at7 : Int) (out8 : List aB) : Option ((List aB) × Int) :=
  bE (0 ≤ at7 ∧ at7 ≤ ((List.length f0 : Nat) : Int)) <|
  bE ((List.length out8 + List.length (List.drop (Int.toNat at7) f0)) * 16 ≤ 140737488355328 ∧ List.length out8 + List.length (List.drop (Int.toNat at7) f0) ≤ 9223372036854775807) <|
  (uZ (out8 ++ (List.drop (Int.toNat at7) f0))).bind fun x18 =>
  some (x18.1, x18.2)

noncomputable def wZ (f0 : (List aB)) (v6 : Int) (at7 : Int) : Option ((List aB) × Int) :=
  cond (!decide (v6 = (0 : Int)))
  (bE (List.length ([aB.mk (-1 : Int) v6]) * 16 ≤ 140737488355328 ∧ List.length ([aB.mk (-1 : Int) v6]) ≤ 9223372036854775807) <|
  xC f0 at7 ([aB.mk (-1 : Int) v6]))
  (xC f0 at7 ([] : List aB))

noncomputable def mR (f0 : (List aB)) (t1 : Int) (v6 : Int) (at7 : Int) : Option ((Int × Int) ⊕ ((Int × Int))) :=
  bE ((((decide (at7 < ((List.length f0 : Nat) : Int)))) = true → 0 ≤ at7 ∧ at7 < ((List.length f0 : Nat) : Int))) <|
  cond ((decide (at7 < ((List.length f0 : Nat) : Int))) && (decide (((List.getD f0 (Int.toNat at7) default).At) < t1)))
  (bE (0 ≤ at7 ∧ at7 < ((List.length f0 : Nat) : Int)) <|
  some (.inl (IntKind.i64.wrap (v6 + ((List.getD f0 (Int.toNat at7) default).Net)), IntKind.i64.wrap (at7 + (1 : Int)))))
  (some (.inr (v6, at7)))

noncomputable def AH (f0 : (List aB)) (t1 : Int) (v6 : Int) (at7 : Int) : Option ((List aB) × Int) :=
  (lp (fun s => mR f0 t1 s.1 s.2) (v6, at7)).bind (fun rr => wZ f0 rr.1 rr.2)

noncomputable def yK (f0 : (List aB)) (t1 : Int) : Option ((List aB) × Int) :=
  (nQ f0).bind fun x1 =>
  cond (!x1)
  (some ([], (2 : Int)))
  (cond (decide ((1125899906842624 : Int) ≤ t1))
  (some ([], (0 : Int)))
  (cond (decide (t1 ≤ (-1 : Int)))
  ((iR f0).bind fun x7 =>
  some (x7, (0 : Int)))
  (AH f0 t1 (0 : Int) (0 : Int))))

noncomputable def rO (f0 : (List aB)) (t1 : Int) : Option ((List aB) × Int) :=
  (yK f0 t1).bind fun x1 =>
  some (x1.1, x1.2)

noncomputable def yG (l0 : (List aE)) (t1 : Int) : Option ((List aE) × Int) :=
  (AP l0 (fun y0 => rO y0 t1)).bind fun x1 =>
  some (x1.1, x1.2)

noncomputable def vQ (t1 : Int) : Option Int :=
  some t1

noncomputable def sC (t1 : Int) (t7 : (List aE)) (t8 : Int) (t9 : Int) : Option ((Int × Int) ⊕ (Int)) :=
  some (.inl (t1, IntKind.i64.wrap (t9 + (1 : Int))))

noncomputable def pQ (t7 : (List aE)) (t8 : Int) (t1 : Int) (t9 : Int) : Option ((Int × Int) ⊕ (Int)) :=
  cond (decide (t9 < t8))
  (bE (0 ≤ t9 ∧ t9 < ((List.length t7 : Nat) : Int)) <|
  cond (decide ((0 : Int) < ((List.getD t7 (Int.toNat t9) default).Net)))
  (sC (if (IntKind.i64.wrap (((List.getD t7 (Int.toNat t9) default).At) + (1 : Int))) > t1 then (IntKind.i64.wrap (((List.getD t7 (Int.toNat t9) default).At) + (1 : Int))) else t1) t7 t8 t9)
  (sC t1 t7 t8 t9))
  (some (.inr t1))

noncomputable def vZ (t1 : Int) (t7 : (List aE)) (t8 : Int) (t9 : Int) : Option Int :=
  (lp (fun s => pQ t7 t8 s.1 s.2) (t1, t9)).bind (fun rr => vQ rr)

noncomputable def tD (l0 : (List aE)) (t1 : Int) : Option Int :=
  vZ t1 l0 ((List.length l0 : Nat) : Int) (0 : Int)

noncomputable def rN (l0 : (List aE)) : Option ((List aE)) :=
  some l0

noncomputable def lX {σ : Type} (cG : σ → (List aI) → (List aB) → Option (σ × Bool)) (t9c0 : (List aE)) (sg : σ) (t10 : (List aI)) (t11 : (List aB)) : Option ((σ) ⊕ (σ)) :=
  (cG sg t10 t11).bind fun x7 =>
  cond (!x7.2)
  (some (.inr x7.1))
  (some (.inl x7.1))

noncomputable def sE {σ : Type} (cG : σ → (List aI) → (List aB) → Option (σ × Bool)) (sg : σ) (t9c0 : (List aE)) : Option σ :=
  (nS (fun st t10 t11 => rnd (fun (s : σ) => lX cG t9c0 s t10 t11) st) t9c0 (.inl sg)).bind (Sum.elim (fun (s : σ) =>
  (some s))
  (fun (s : σ) =>
  (some s)))

noncomputable def nY {σ : Type} (cG : σ → (List aI) → (List aB) → Option (σ × Bool)) (t1 : (List aE)) (sg0 : σ) : Option σ :=
  (oY t1).bind fun x1 =>
  cond (!x1)
  (some sg0)
  ((qL t1).bind fun x5 =>
  sE cG sg0 x5)

noncomputable def BS (f0 : (List aB)) : Option ((List aB)) :=
  some f0

noncomputable def oT {σ : Type} (cG : σ → bJ → Option (σ × Bool)) (sg : σ) (n3 : Int) (kT : Int) : Option σ :=
  cond (decide ((0 : Int) < n3))
  ((cG sg (bJ.mk kT (1125899906842624 : Int))).bind fun x2 =>
  some x2.1)
  (some sg)

noncomputable def mW {σ : Type} (cG : σ → bJ → Option (σ × Bool)) (sg : σ) (n3 : Int) (kT : Int) (j6 : aB) (t7 : (List aB)) (t8 : Int) (t9 : Int) : Option ((σ × Int × Int × Int) ⊕ ((σ × Int × Int) ⊕ σ)) :=
  (BZ (decide ((IntKind.i64.wrap (n3 + j6.Net)) = (0 : Int))) sg (cG sg (bJ.mk kT j6.At))).bind fun (x10, x11) =>
  cond ((decide ((IntKind.i64.wrap (n3 + j6.Net)) = (0 : Int))) && (!x11))
  (some (.inr (.inr x10)))
  (some (.inl (x10, IntKind.i64.wrap (n3 + j6.Net), kT, IntKind.i64.wrap (t9 + (1 : Int)))))

noncomputable def gX {σ : Type} (cG : σ → bJ → Option (σ × Bool)) (t7 : (List aB)) (t8 : Int) (sg : σ) (n3 : Int) (kT : Int) (t9 : Int) : Option ((σ × Int × Int × Int) ⊕ ((σ × Int × Int) ⊕ σ)) :=
  cond (decide (t9 < t8))
  (bE (0 ≤ t9 ∧ t9 < ((List.length t7 : Nat) : Int)) <|
  cond (decide (n3 = (0 : Int)))
  (mW cG sg n3 ((List.getD t7 (Int.toNat t9) default).At) (List.getD t7 (Int.toNat t9) default) t7 t8 t9)
  (mW cG sg n3 kT (List.getD t7 (Int.toNat t9) default) t7 t8 t9))
  (some (.inr (.inl (sg, n3, kT))))

noncomputable def tQ {σ : Type} (cG : σ → bJ → Option (σ × Bool)) (sg : σ) (n3 : Int) (kT : Int) (t7 : (List aB)) (t8 : Int) (t9 : Int) : Option σ :=
  (lp (fun s => gX cG t7 t8 s.1 s.2.1 s.2.2.1 s.2.2.2) (sg, n3, kT, t9)).bind (Sum.elim (fun rr => oT cG rr.1 rr.2.1 rr.2.2) (fun rr => some rr))

noncomputable def rU {σ : Type} (cG : σ → bJ → Option (σ × Bool)) (t1 : (List aB)) (sg0 : σ) : Option σ :=
  tQ cG sg0 (0 : Int) (0 : Int) t1 ((List.length t1 : Nat) : Int) (0 : Int)

noncomputable def zV (mV : Int) (hop1 : Int) (s2 : bJ) (mK : Int) (kD : Int) : Option ((Int × bJ × Int × Int × Int)) :=
  some (hop1, s2, mV, mK, kD)

noncomputable def kC {σ : Type} (cG : σ → Int → Option (σ × Bool)) (t1 : Int) (t2 : bJ) (t5 : Int) (sg : σ) (t8 : Int) : Option ((σ × Int) ⊕ (σ ⊕ σ)) :=
  cond (decide (t8 < (if (1125899906842624 : Int) < (if t5 < t2.To then t5 else t2.To) then (1125899906842624 : Int) else (if t5 < t2.To then t5 else t2.To))))
  ((cG sg t8).bind fun x8 =>
  cond (!x8.2)
  (some (.inr (.inr x8.1)))
  (some (.inl (x8.1, IntKind.i64.wrap (t8 + t1)))))
  (some (.inr (.inl sg)))

noncomputable def qC {σ : Type} (cG : σ → Int → Option (σ × Bool)) (sg : σ) (t1 : Int) (t2 : bJ) (t5 : Int) (t8 : Int) : Option σ :=
  (lp (fun s => kC cG t1 t2 t5 s.1 s.2) (sg, t8)).bind (Sum.elim (fun rr => some rr) (fun rr => some rr))

noncomputable def rA {σ : Type} (cG : σ → Int → Option (σ × Bool)) (t1 : Int) (t2 : bJ) (t3 : Int) (t4 : Int) (t5 : Int) (sg0 : σ) : Option σ :=
  (qZ t1 (IntKind.i64.wrap (t2.From - t3))).bind fun x1 =>
  (qZ t1 (IntKind.i64.wrap (t4 - (1 : Int)))).bind fun x4 =>
  qC cG sg0 t1 t2 t5 (if x4 > x1 then x4 else x1)

noncomputable def xM (v5 : Int) : Option Int :=
  some v5

noncomputable def oW (t1 : Int) (t11 : (List aB)) (t12 : Int) (v5 : Int) (t13 : Int) : Option ((Int × Int) ⊕ (Int)) :=
  cond (decide (t13 < t12))
  (bE (0 ≤ t13 ∧ t13 < ((List.length t11 : Nat) : Int)) <|
  cond (decide (t1 < ((List.getD t11 (Int.toNat t13) default).At)))
  (some (.inr v5))
  (some (.inl (IntKind.i64.wrap (v5 + ((List.getD t11 (Int.toNat t13) default).Net)), IntKind.i64.wrap (t13 + (1 : Int))))))
  (some (.inr v5))

noncomputable def CQ (t1 : Int) (v5 : Int) (t11 : (List aB)) (t12 : Int) (t13 : Int) : Option Int :=
  (lp (fun s => oW t1 t11 t12 s.1 s.2) (v5, t13)).bind (fun rr => xM rr)

noncomputable def zM (f0 : (List aB)) (t1 : Int) : Option Int :=
  (nQ f0).bind fun x1 =>
  cond (!x1)
  (some (0 : Int))
  (CQ t1 (0 : Int) f0 ((List.length f0 : Nat) : Int) (0 : Int))

noncomputable def xI (n5 : Int) : Option Int :=
  some n5

noncomputable def qQ (w3 : bJ) (n5 : Int) (t12 : (List aB)) (t13 : Int) (t14 : Int) : Option ((Int × Int) ⊕ (Int)) :=
  some (.inl (n5, IntKind.i64.wrap (t14 + (1 : Int))))

noncomputable def qR (w3 : bJ) (t12 : (List aB)) (t13 : Int) (n5 : Int) (t14 : Int) : Option ((Int × Int) ⊕ (Int)) :=
  cond (decide (t14 < t13))
  (bE (0 ≤ t14 ∧ t14 < ((List.length t12 : Nat) : Int)) <|
  cond ((decide (w3.From < ((List.getD t12 (Int.toNat t14) default).At))) && (decide (((List.getD t12 (Int.toNat t14) default).At) < w3.To)))
  (qQ w3 (IntKind.i64.wrap (n5 + (if (0 : Int) > ((List.getD t12 (Int.toNat t14) default).Net) then (0 : Int) else ((List.getD t12 (Int.toNat t14) default).Net)))) t12 t13 t14)
  (qQ w3 n5 t12 t13 t14))
  (some (.inr n5))

noncomputable def xH (w3 : bJ) (n5 : Int) (t12 : (List aB)) (t13 : Int) (t14 : Int) : Option Int :=
  (lp (fun s => qR w3 t12 t13 s.1 s.2) (n5, t14)).bind (fun rr => xI rr)

noncomputable def uO (f0 : (List aB)) (w1 : bJ) : Option Int :=
  (zM f0 w1.From).bind fun x1 =>
  xH w1 x1 f0 ((List.length f0 : Nat) : Int) (0 : Int)

noncomputable def shP (a b : Nat) (p : aN) : List (Nat × Nat × List V) := [(a, 3, [(.agg [(eI p.Span.From), (eI p.Span.To), (.msl 2 b 0 (List.length p.Rows))])]), (b, 2, List.map bH p.Rows)]

noncomputable def shF (a _b : Nat) (p : aN) : List (Nat × Nat × List V) := [(a, 3, [(aP p)])]

noncomputable def pY (r : List aI) (f : List aB) (p : aN) : Option aN :=
  bE ((!(decide ((wR ((lN p.Rows) - (1 : Int))) < (0 : Int)))) = true → 0 ≤ (wR ((lN p.Rows) - (1 : Int))) ∧ (wR ((lN p.Rows) - (1 : Int))) < (lN p.Rows)) <|
  (dN (!(decide ((wR ((lN p.Rows) - (1 : Int))) < (0 : Int)))) (rY ((gD p.Rows (wR ((lN p.Rows) - (1 : Int)))).Row) r)).bind fun x1 =>
  cond ((decide ((wR ((lN p.Rows) - (1 : Int))) < (0 : Int))) || (!x1))
  ((tV r).bind fun x2 =>
  (uO f p.Span).bind fun x3 =>
  bE ((List.length p.Rows + List.length ([bB.mk x2 x3])) * 32 ≤ 140737488355328 ∧ List.length p.Rows + List.length ([bB.mk x2 x3]) ≤ 9223372036854775807) <|
  some (aN.mk p.Span (p.Rows ++ [bB.mk x2 x3])))
  (some p)

noncomputable def oC (r : List aI) (f : List aB) (size : Int) (b : Bool) (m : List (Int × aN)) (t : Int) : Option ((Bool × List (Int × aN)) ⊕ (Bool × List (Int × aN))) :=
  match gK m t with
  | none => cond (decide ((lN m) = (1024 : Int)))
    (some (.inr (false, m)))
    ((pY r f (aN.mk (bJ.mk t (if (1125899906842624 : Int) < (wR (t + size)) then (1125899906842624 : Int) else (wR (t + size)))) [])).bind fun p => some (.inl (b, fE m t p)))
  | some p => (pY r f p).bind fun p => some (.inl (b, fE m t p))

noncomputable def qA (r : List aI) (f : List aB) (size hop frm front : Int) (b : Bool) (m : List (Int × aN)) (s : bJ) : Option ((Bool × List (Int × aN)) ⊕ (Bool × List (Int × aN))) :=
  (zV size hop s frm front).bind fun x =>
  (rA (fun st t => rnd (fun (q : Bool × List (Int × aN)) => oC r f size q.1 q.2 t) st) x.1 x.2.1 x.2.2.1 x.2.2.2.1 x.2.2.2.2 (.inl (b, m))).bind (Sum.elim (fun q => some (.inl q)) (fun q => some (.inr q)))

noncomputable def wY (m : List (Int × aN)) (r : List aI) (f : List aB) (size hop frm front : Int) : Option (Bool × List (Int × aN)) :=
  (BS f).bind fun x =>
  (rU (fun st s => rnd (fun (q : Bool × List (Int × aN)) => qA r f size hop frm front q.1 q.2 s) st) x (.inl (false, m))).bind (Sum.elim (fun q => some (true, q.2)) (fun q => some (q.1, q.2)))

noncomputable def nL (size hop frm front : Int) (t10 : List aN) (t11 : Int) (m : List (Int × aN)) (r : List aI) (f : List aB) : Option ((List aN × Int × List (Int × aN)) ⊕ (List aN × Int × List (Int × aN))) :=
  (wY m r f size hop frm front).bind fun x =>
  cond (!x.1)
  (some (.inr ([], (7 : Int), x.2)))
  (some (.inl (t10, t11, x.2)))

noncomputable def sP (m : List (Int × aN)) (b : List Int) (n : Int) (out : List aN) (i : Int) : Option ((List aN × Int) ⊕ (List aN)) :=
  cond (decide (i < n))
  (bE (0 ≤ i ∧ i < (lN b)) <|
  match gK m (gD b i) with
  | none => none
  | some p =>
    bE ((List.length out + List.length ([p])) * 40 ≤ 140737488355328 ∧ List.length out + List.length ([p]) ≤ 9223372036854775807) <|
    some (.inl (out ++ [p], wR (i + (1 : Int)))))
  (some (.inr out))

noncomputable def DR (m : List (Int × aN)) (b : List Int) : Option (List aN × Int) :=
  (gS b).bind fun b =>
  bE (0 ≤ (lN b) ∧ (40 : Int) * (lN b) ≤ 281474976710656 ∧ (lN b) ≤ 9223372036854775807) <|
  (lp (fun s => sP m b (lN b) s.1 s.2) (([] : List aN), (0 : Int))).bind fun out => some (out, (0 : Int))

noncomputable def sY (s : List Int) (k : Int) : Option (List Int) :=
  bE ((List.length s + List.length ([k])) * 8 ≤ 140737488355328 ∧ List.length s + List.length ([k]) ≤ 9223372036854775807) <|
  some (s ++ [k])

noncomputable def wE (m : List (Int × aN)) : Option (List aN × Int) :=
  bE (0 ≤ (lN m) ∧ (8 : Int) * (lN m) ≤ 281474976710656 ∧ (lN m) ≤ 9223372036854775807) <|
  tR (m.map (·.1)) (fun q => (dQ sY ([] : List Int) q).bind (DR m))

noncomputable def DT (l : List aE) (size hop frm front : Int) (t10 : List aN) (t11 : Int) : Option (List aN × Int) :=
  (rN l).bind fun x =>
  (nY (fun st r f => rnd (fun (q : List aN × Int × List (Int × aN)) => nL size hop frm front q.1 q.2.1 q.2.2 r f) st) x (.inl (t10, t11, []))).bind (Sum.elim (fun q => wE q.2.2) (fun q => some (q.1, q.2.1)))

noncomputable def yL (l0 : (List aE)) (sA : Int) (hop2 : Int) (mK : Int) (kD : Int) : Option ((List aN) × Int) :=
  (zP sA hop2).bind fun x3 =>
  (dN (!(!x3)) (oY l0)).bind fun x6 =>
  cond ((!x3) || (!x6))
  (some ([], (2 : Int)))
  ((pK l0).bind fun x10 =>
  cond (!x10)
  (some ([], (20 : Int)))
  ((uB mK).bind fun x14 =>
  (dN (!(!x14)) (uB kD)).bind fun x17 =>
  cond ((!x14) || (!x17))
  (some ([], (13 : Int)))
  (DT l0 sA hop2 mK kD ([]) 0)))

noncomputable def gG (s0 : (List aI)) : Option (List aI) :=
  bE (List.length s0 * 32 ≤ 140737488355328 ∧ List.length s0 ≤ 9223372036854775807) <|
  some s0

noncomputable def oN (xP : (List aE)) (t4 : aN) (p5 : aN) (t22 : aE) : Option ((aN × aN) ⊕ (aN × aN)) :=
  cond ((decide (t22.At < p5.Span.From)) || (decide (p5.Span.To ≤ t22.At)))
  (some (.inl (t4, p5)))
  (bE ((((decide ((0 : Int) ≤ (IntKind.i64.wrap (((List.length p5.Rows : Nat) : Int) - (1 : Int)))))) = true → 0 ≤ (IntKind.i64.wrap (((List.length p5.Rows : Nat) : Int) - (1 : Int))) ∧ (IntKind.i64.wrap (((List.length p5.Rows : Nat) : Int) - (1 : Int))) < ((List.length p5.Rows : Nat) : Int))) <|
  (dN (decide ((0 : Int) ≤ (IntKind.i64.wrap (((List.length p5.Rows : Nat) : Int) - (1 : Int))))) (fZ ((List.getD p5.Rows (Int.toNat (IntKind.i64.wrap (((List.length p5.Rows : Nat) : Int) - (1 : Int)))) default).Row) t22.Row)).bind fun x13 =>
  cond ((decide ((0 : Int) ≤ (IntKind.i64.wrap (((List.length p5.Rows : Nat) : Int) - (1 : Int))))) && x13)
  (bE (0 ≤ (IntKind.i64.wrap (((List.length p5.Rows : Nat) : Int) - (1 : Int))) ∧ (IntKind.i64.wrap (((List.length p5.Rows : Nat) : Int) - (1 : Int))) < ((List.length p5.Rows : Nat) : Int)) <|
  bE (0 ≤ (IntKind.i64.wrap (((List.length p5.Rows : Nat) : Int) - (1 : Int))) ∧ (IntKind.i64.wrap (((List.length p5.Rows : Nat) : Int) - (1 : Int))) < ((List.length p5.Rows : Nat) : Int)) <|
  some (.inl (t4, aN.mk p5.Span (List.set p5.Rows (Int.toNat (IntKind.i64.wrap (((List.length p5.Rows : Nat) : Int) - (1 : Int)))) (bB.mk (List.getD p5.Rows (Int.toNat (IntKind.i64.wrap (((List.length p5.Rows : Nat) : Int) - (1 : Int)))) default).Row (IntKind.i64.wrap (((List.getD p5.Rows (Int.toNat (IntKind.i64.wrap (((List.length p5.Rows : Nat) : Int) - (1 : Int)))) default).N) + t22.Net)))))))
  ((gG t22.Row).bind fun x19 =>
  bE ((List.length p5.Rows + List.length ([bB.mk x19 t22.Net])) * 32 ≤ 140737488355328 ∧ List.length p5.Rows + List.length ([bB.mk x19 t22.Net]) ≤ 9223372036854775807) <|
  some (.inl (t4, aN.mk p5.Span (p5.Rows ++ ([bB.mk x19 t22.Net]))))))

noncomputable def tU (t4 : aN) (p5 : aN) (xP : (List aE)) : Option aN :=
  (mX (fun st t22 => rnd (fun (s : aN × aN) => oN xP s.1 s.2 t22) st) xP (.inl (t4, p5))).bind (Sum.elim (fun (s : aN × aN) =>
  (some s.2))
  (fun (s : aN × aN) =>
  (none)))

noncomputable def rV (l0 : (List aE)) (run1 : (List Int)) : Option aN :=
  bE (0 ≤ (0 : Int) ∧ (0 : Int) < ((List.length run1 : Nat) : Int)) <|
  bE (0 ≤ (IntKind.i64.wrap (((List.length run1 : Nat) : Int) - (1 : Int))) ∧ (IntKind.i64.wrap (((List.length run1 : Nat) : Int) - (1 : Int))) < ((List.length run1 : Nat) : Int)) <|
  (qN l0).bind fun x6 =>
  tU (aN.mk (bJ.mk 0 0) ([])) (aN.mk (bJ.mk (List.getD run1 (Int.toNat (0 : Int)) default) (IntKind.i64.wrap ((List.getD run1 (Int.toNat (IntKind.i64.wrap (((List.length run1 : Nat) : Int) - (1 : Int)))) default) + (1 : Int)))) ([])) x6

noncomputable def vT (kP : List aN) : Option ((List aN) × Int) :=
  some (kP, (0 : Int))

noncomputable def mL (l0 : (List aE)) (n1 : Int) (lW : (List Int)) (kP : List aN) : Option (((List Int) × List aN) ⊕ ((List aN))) :=
  cond (decide (n1 ≤ ((List.length lW : Nat) : Int)))
  (bE (0 ≤ n1 ∧ n1 ≤ n1 ∧ n1 ≤ ((List.length lW : Nat) : Int)) <|
  (rV l0 (List.take (Int.toNat n1) lW)).bind fun x20 =>
  bE ((List.length kP + List.length ([x20])) * 40 ≤ 140737488355328 ∧ List.length kP + List.length ([x20]) ≤ 9223372036854775807) <|
  bE (0 ≤ (1 : Int) ∧ (1 : Int) ≤ ((List.length lW : Nat) : Int)) <|
  some (.inl (List.drop (Int.toNat (1 : Int)) lW, kP ++ ([x20]))))
  (some (.inr kP))

noncomputable def vV (l0 : (List aE)) (n1 : Int) (lW : (List Int)) (kP : List aN) : Option ((List aN) × Int) :=
  (lp (fun s => mL l0 n1 s.1 s.2) (lW, kP)).bind (fun rr => vT rr)

noncomputable def tA (l0 : (List aE)) (n1 : Int) (nN : Int) : Option ((List aN) × Int) :=
  (tF l0 n1).bind fun x1 =>
  cond (!decide (x1 = (0 : Int)))
  (some ([], x1))
  (cond ((decide (nN < (0 : Int))) || (decide ((1125899906842624 : Int) < nN)))
  (some ([], (13 : Int)))
  ((pR l0).bind fun x6 =>
  (fL x6 nN).bind fun x9 =>
  bE (0 ≤ x9.1 ∧ x9.1 ≤ ((List.length x6 : Nat) : Int) ∧ ((List.length x6 : Nat) : Int) ≤ ((List.length x6 : Nat) : Int) ∧ ((List.length x6 : Nat) : Int) ≤ ((List.length x6 : Nat) : Int)) <|
  cond (decide ((1024 : Int) < (IntKind.i64.wrap ((IntKind.i64.wrap (((List.length (List.drop (Int.toNat x9.1) (List.take (Int.toNat ((List.length x6 : Nat) : Int)) x6)) : Nat) : Int) - n1)) + (1 : Int)))))
  (some ([], (7 : Int)))
  (vV l0 n1 (List.drop (Int.toNat x9.1) (List.take (Int.toNat ((List.length x6 : Nat) : Int)) x6)) ([] : List aN))))

noncomputable def zW (out9 : List Int) : Option ((List Int) × Int) :=
  (gS out9).bind fun x16 =>
  some (x16, (0 : Int))

noncomputable def tE (t50 : (List (Int × Int))) (out9 : List Int) (mk : Int) (mv : Int) : Option (List Int) :=
  bE ((List.length out9 + List.length ([mk])) * 8 ≤ 140737488355328 ∧ List.length out9 + List.length ([mk]) ≤ 9223372036854775807) <|
  some (out9 ++ ([mk]))

noncomputable def zX (t50 : (List (Int × Int))) (out9 : List Int) : Option ((List Int) × Int) :=
  zW out9

noncomputable def AF (out9 : List Int) (t50 : (List (Int × Int))) : Option ((List Int) × Int) :=
  tR t50 (fun q => (dQ (fun (s : List Int) (x : Int × Int) => tE t50 s x.1 x.2) out9 q).bind (fun (s : List Int) => zX t50 s))

noncomputable def wL (lG : (List (Int × Int))) : Option ((List Int) × Int) :=
  bE (0 ≤ ((List.length lG : Nat) : Int) ∧ (8 : Int) * ((List.length lG : Nat) : Int) ≤ 281474976710656 ∧ ((List.length lG : Nat) : Int) ≤ 9223372036854775807) <|
  AF ([] : List Int) lG

noncomputable def sR (iT : Int) (lG : (List (Int × Int))) (t32 : (List aE)) (t33 : Int) (t34 : Int) : Option (((List (Int × Int)) × Int) ⊕ ((List (Int × Int)))) :=
  some (.inl (lG, IntKind.i64.wrap (t34 + (1 : Int))))

noncomputable def pI (iT : Int) (t32 : (List aE)) (t33 : Int) (lG : (List (Int × Int))) (t34 : Int) : Option (((List (Int × Int)) × Int) ⊕ ((List (Int × Int)))) :=
  cond (decide (t34 < t33))
  (bE (0 ≤ t34 ∧ t34 < ((List.length t32 : Nat) : Int)) <|
  cond (decide (iT < ((List.getD t32 (Int.toNat t34) default).At)))
  (sR iT (fE lG ((List.getD t32 (Int.toNat t34) default).At) (1 : Int)) t32 t33 t34)
  (sR iT lG t32 t33 t34))
  (some (.inr lG))

noncomputable def AQ (iT : Int) (lG : (List (Int × Int))) (t32 : (List aE)) (t33 : Int) (t34 : Int) : Option ((List Int) × Int) :=
  (lp (fun s => pI iT t32 t33 s.1 s.2) (lG, t34)).bind (fun rr => wL rr)

noncomputable def yI (l0 : (List aE)) (iT : Int) : Option ((List Int) × Int) :=
  (oY l0).bind fun x1 =>
  cond (!x1)
  (some ([], (2 : Int)))
  ((pK l0).bind fun x5 =>
  cond (!x5)
  (some ([], (20 : Int)))
  (cond ((decide (iT < (0 : Int))) || (decide ((1125899906842624 : Int) < iT)))
  (some ([], (13 : Int)))
  (cond (decide (iT = (1125899906842624 : Int)))
  (some ([], (0 : Int)))
  (AQ iT (fE ([] : (List (Int × Int))) iT (1 : Int)) l0 ((List.length l0 : Nat) : Int) (0 : Int)))))

noncomputable def vU (out4 : List bB) : Option (List bB) :=
  some out4

noncomputable def pP (t0 : Int) (out4 : List bB) (t9 : (List cC)) (t10 : Int) (t11 : Int) : Option ((List bB × Int) ⊕ ((List bB))) :=
  some (.inl (out4, IntKind.i64.wrap (t11 + (1 : Int))))

noncomputable def nP (t0 : Int) (t9 : (List cC)) (t10 : Int) (out4 : List bB) (t11 : Int) : Option ((List bB × Int) ⊕ ((List bB))) :=
  cond (decide (t11 < t10))
  (bE (0 ≤ t11 ∧ t11 < ((List.length t9 : Nat) : Int)) <|
  (zM ((List.getD t9 (Int.toNat t11) default).jumps) t0).bind fun x9 =>
  cond (decide ((0 : Int) < x9))
  ((gG ((List.getD t9 (Int.toNat t11) default).row)).bind fun x16 =>
  bE ((List.length out4 + List.length ([bB.mk x16 x9])) * 32 ≤ 140737488355328 ∧ List.length out4 + List.length ([bB.mk x16 x9]) ≤ 9223372036854775807) <|
  pP t0 (out4 ++ ([bB.mk x16 x9])) t9 t10 t11)
  (pP t0 out4 t9 t10 t11))
  (some (.inr out4))

noncomputable def vO (t0 : Int) (out4 : List bB) (t9 : (List cC)) (t10 : Int) (t11 : Int) : Option (List bB) :=
  (lp (fun s => nP t0 t9 t10 s.1 s.2) (out4, t11)).bind (fun rr => vU rr)

noncomputable def sQ (t0 : Int) (t1 : (List cC)) : Option (List bB) :=
  vO t0 ([] : List bB) t1 ((List.length t1 : Nat) : Int) (0 : Int)

noncomputable def oA (eM : (List Int)) (xQ : (List aE)) (all8 : List cC) (t29 : (List aI)) (t30 : (List aB)) : Option ((List cC) ⊕ (List cC)) :=
  bE ((List.length all8 + List.length ([cC.mk t29 t30])) * 48 ≤ 140737488355328 ∧ List.length all8 + List.length ([cC.mk t29 t30]) ≤ 9223372036854775807) <|
  some (.inl (all8 ++ ([cC.mk t29 t30])))

noncomputable def yX (eJ : List aN) : Option ((List aN) × Int) :=
  some (eJ, (0 : Int))

noncomputable def uN (eM : (List Int)) (gP : (List cC)) (eJ : List aN) (t39 : (List Int)) (t40 : Int) (t41 : Int) : Option ((List aN × Int) ⊕ ((List aN) ⊕ ((List aN) × Int))) :=
  some (.inl (eJ, IntKind.i64.wrap (t41 + (1 : Int))))

noncomputable def uU (eM : (List Int)) (gP : (List cC)) (eJ : List aN) (t14 : Int) (sS : (List bB)) (AG : Int) (t39 : (List Int)) (t40 : Int) (t41 : Int) : Option ((List aN × Int) ⊕ ((List aN) ⊕ ((List aN) × Int))) :=
  bE ((List.length eJ + List.length ([aN.mk (bJ.mk t14 AG) sS])) * 40 ≤ 140737488355328 ∧ List.length eJ + List.length ([aN.mk (bJ.mk t14 AG) sS]) ≤ 9223372036854775807) <|
  uN eM gP (eJ ++ ([aN.mk (bJ.mk t14 AG) sS])) t39 t40 t41

noncomputable def nZ (eM : (List Int)) (gP : (List cC)) (t39 : (List Int)) (t40 : Int) (eJ : List aN) (t41 : Int) : Option ((List aN × Int) ⊕ ((List aN) ⊕ ((List aN) × Int))) :=
  cond (decide (t41 < t40))
  (bE (0 ≤ t41 ∧ t41 < ((List.length t39 : Nat) : Int)) <|
  (sQ (List.getD t39 (Int.toNat t41) default) gP).bind fun x20 =>
  cond (decide (((List.length x20 : Nat) : Int) = (0 : Int)))
  (uN eM gP eJ t39 t40 t41)
  (cond (decide (((List.length eJ : Nat) : Int) = (1024 : Int)))
  (some (.inr (.inr ([], (7 : Int)))))
  (cond (decide ((IntKind.i64.wrap (t41 + (1 : Int))) < ((List.length eM : Nat) : Int)))
  (bE (0 ≤ (IntKind.i64.wrap (t41 + (1 : Int))) ∧ (IntKind.i64.wrap (t41 + (1 : Int))) < ((List.length eM : Nat) : Int)) <|
  uU eM gP eJ (List.getD t39 (Int.toNat t41) default) x20 (List.getD eM (Int.toNat (IntKind.i64.wrap (t41 + (1 : Int)))) default) t39 t40 t41)
  (uU eM gP eJ (List.getD t39 (Int.toNat t41) default) x20 (1125899906842624 : Int) t39 t40 t41))))
  (some (.inr (.inl eJ)))

noncomputable def uK (eM : (List Int)) (gP : (List cC)) (eJ : List aN) (t39 : (List Int)) (t40 : Int) (t41 : Int) : Option ((List aN) × Int) :=
  (lp (fun s => nZ eM gP t39 t40 s.1 s.2) (eJ, t41)).bind (Sum.elim (fun rr => yX rr) (fun rr => some (rr.1, rr.2)))

noncomputable def yV (eM : (List Int)) (all8 : List cC) (xQ : (List aE)) : Option ((List aN) × Int) :=
  (nY (fun st t29 t30 => rnd (fun (s : List cC) => oA eM xQ s t29 t30) st) xQ (.inl all8)).bind (Sum.elim (fun (s : List cC) =>
  (uK eM s ([] : List aN) eM ((List.length eM : Nat) : Int) (0 : Int)))
  (fun (s : List cC) =>
  (none)))

noncomputable def wI (l0 : (List aE)) (iT : Int) : Option ((List aN) × Int) :=
  (yI l0 iT).bind fun x1 =>
  cond (!decide (x1.2 = (0 : Int)))
  (some ([], x1.2))
  ((rN l0).bind fun x7 =>
  yV x1.1 ([] : List cC) x7)

noncomputable def oQ (w0 : bY) (l1 : (List aE)) (nN : Int) (t3 : Int) : Option ((List aN) × Int) :=
  (qM w0 l1 t3).bind fun x1 =>
  cond (!decide (x1 = (0 : Int)))
  (some ([], x1))
  (cond (decide (w0.Kind = (2 : Int)))
  ((tD l1 t3).bind fun x6 =>
  (yL l1 w0.Size w0.Hop nN x6).bind fun x9 =>
  some (x9.1, x9.2))
  (cond (decide (w0.Kind = (3 : Int)))
  ((tA l1 w0.Size nN).bind fun x13 =>
  some (x13.1, x13.2))
  ((wI l1 nN).bind fun x16 =>
  some (x16.1, x16.2))))

noncomputable def sX  : Option Bool :=
  (oR (bY.mk (2 : Int) (10 : Int) (5 : Int)) ([aE.mk ([aI.mk (1 : Int) (1 : Int) ByteArray.empty]) (3 : Int) (1 : Int), aE.mk ([aI.mk (1 : Int) (1 : Int) ByteArray.empty]) (7 : Int) (-1 : Int)]) (12 : Int)).bind fun x2 =>
  (oQ (bY.mk (2 : Int) (10 : Int) (5 : Int)) ([aE.mk ([aI.mk (1 : Int) (1 : Int) ByteArray.empty]) (3 : Int) (1 : Int), aE.mk ([aI.mk (1 : Int) (1 : Int) ByteArray.empty]) (7 : Int) (-1 : Int)]) (0 : Int) (2 : Int)).bind fun x5 =>
  bE (((((((decide (x2.1 = (5 : Int))) && (decide (x2.2 = (0 : Int)))) && (decide (x5.2 = (0 : Int)))) && (decide (((List.length x5.1 : Nat) : Int) = (1 : Int))))) = true → 0 ≤ (0 : Int) ∧ (0 : Int) < ((List.length x5.1 : Nat) : Int))) <|
  (dN (((((decide (x2.1 = (5 : Int))) && (decide (x2.2 = (0 : Int)))) && (decide (x5.2 = (0 : Int)))) && (decide (((List.length x5.1 : Nat) : Int) = (1 : Int)))) && ((decide ((((List.getD x5.1 (Int.toNat (0 : Int)) default).Span).From) = ((bJ.mk 0 (10 : Int)).From))) && ((decide ((((List.getD x5.1 (Int.toNat (0 : Int)) default).Span).To) = ((bJ.mk 0 (10 : Int)).To))) && true))) (qP (bY.mk 0 0 0))).bind fun x9 =>
  some ((((((decide (x2.1 = (5 : Int))) && (decide (x2.2 = (0 : Int)))) && (decide (x5.2 = (0 : Int)))) && (decide (((List.length x5.1 : Nat) : Int) = (1 : Int)))) && ((decide ((((List.getD x5.1 (Int.toNat (0 : Int)) default).Span).From) = ((bJ.mk 0 (10 : Int)).From))) && ((decide ((((List.getD x5.1 (Int.toNat (0 : Int)) default).Span).To) = ((bJ.mk 0 (10 : Int)).To))) && true))) && (decide (x9 = (2 : Int))))

noncomputable def uW  : Option Bool :=
  some true

noncomputable def rS (a0 : (List aI)) (b1 : (List aI)) (i5 : Int) : Option ((Int) ⊕ (Unit ⊕ Bool)) :=
  cond (decide (i5 < ((List.length a0 : Nat) : Int)))
  (bE (0 ≤ i5 ∧ i5 < ((List.length a0 : Nat) : Int)) <|
  bE (0 ≤ i5 ∧ i5 < ((List.length b1 : Nat) : Int)) <|
  cond (!((decide (((List.getD a0 (Int.toNat i5) default).Kind) = ((List.getD b1 (Int.toNat i5) default).Kind))) && ((decide (((List.getD a0 (Int.toNat i5) default).Num) = ((List.getD b1 (Int.toNat i5) default).Num))) && ((qF ((List.getD a0 (Int.toNat i5) default).Text) ((List.getD b1 (Int.toNat i5) default).Text)) && true))))
  (some (.inr (.inr false)))
  (some (.inl (IntKind.i64.wrap (i5 + (1 : Int))))))
  (some (.inr (.inl ())))

noncomputable def yT (a0 : (List aI)) (b1 : (List aI)) (i5 : Int) : Option Bool :=
  (lp (fun s => rS a0 b1 s) i5).bind (Sum.elim (fun rr => uW ) (fun rr => some rr))

noncomputable def wS (a0 : (List aI)) (b1 : (List aI)) : Option Bool :=
  cond (!decide (((List.length a0 : Nat) : Int) = ((List.length b1 : Nat) : Int)))
  (some false)
  (yT a0 b1 (0 : Int))

noncomputable def oL  : Option Bool :=
  some true

noncomputable def mN (a0 : (List bB)) (b1 : (List bB)) (i5 : Int) : Option ((Int) ⊕ (Unit ⊕ Bool)) :=
  cond (decide (i5 < ((List.length a0 : Nat) : Int)))
  (bE (0 ≤ i5 ∧ i5 < ((List.length a0 : Nat) : Int)) <|
  bE (0 ≤ i5 ∧ i5 < ((List.length b1 : Nat) : Int)) <|
  bE ((((!(!decide (((List.getD a0 (Int.toNat i5) default).N) = ((List.getD b1 (Int.toNat i5) default).N))))) = true → 0 ≤ i5 ∧ i5 < ((List.length a0 : Nat) : Int))) <|
  bE ((((!(!decide (((List.getD a0 (Int.toNat i5) default).N) = ((List.getD b1 (Int.toNat i5) default).N))))) = true → 0 ≤ i5 ∧ i5 < ((List.length b1 : Nat) : Int))) <|
  (dN (!(!decide (((List.getD a0 (Int.toNat i5) default).N) = ((List.getD b1 (Int.toNat i5) default).N)))) (wS ((List.getD a0 (Int.toNat i5) default).Row) ((List.getD b1 (Int.toNat i5) default).Row))).bind fun x7 =>
  cond ((!decide (((List.getD a0 (Int.toNat i5) default).N) = ((List.getD b1 (Int.toNat i5) default).N))) || (!x7))
  (some (.inr (.inr false)))
  (some (.inl (IntKind.i64.wrap (i5 + (1 : Int))))))
  (some (.inr (.inl ())))

noncomputable def rJ (a0 : (List bB)) (b1 : (List bB)) (i5 : Int) : Option Bool :=
  (lp (fun s => mN a0 b1 s) i5).bind (Sum.elim (fun rr => oL ) (fun rr => some rr))

noncomputable def pL (a0 : (List bB)) (b1 : (List bB)) : Option Bool :=
  cond (!decide (((List.length a0 : Nat) : Int) = ((List.length b1 : Nat) : Int)))
  (some false)
  (rJ a0 b1 (0 : Int))

noncomputable def uQ  : Option Bool :=
  some true

noncomputable def rM (a0 : (List aN)) (b1 : (List aN)) (i5 : Int) : Option ((Int) ⊕ (Unit ⊕ Bool)) :=
  cond (decide (i5 < ((List.length a0 : Nat) : Int)))
  (bE (0 ≤ i5 ∧ i5 < ((List.length a0 : Nat) : Int)) <|
  bE (0 ≤ i5 ∧ i5 < ((List.length b1 : Nat) : Int)) <|
  bE ((((!(!((decide ((((List.getD a0 (Int.toNat i5) default).Span).From) = (((List.getD b1 (Int.toNat i5) default).Span).From))) && ((decide ((((List.getD a0 (Int.toNat i5) default).Span).To) = (((List.getD b1 (Int.toNat i5) default).Span).To))) && true))))) = true → 0 ≤ i5 ∧ i5 < ((List.length a0 : Nat) : Int))) <|
  bE ((((!(!((decide ((((List.getD a0 (Int.toNat i5) default).Span).From) = (((List.getD b1 (Int.toNat i5) default).Span).From))) && ((decide ((((List.getD a0 (Int.toNat i5) default).Span).To) = (((List.getD b1 (Int.toNat i5) default).Span).To))) && true))))) = true → 0 ≤ i5 ∧ i5 < ((List.length b1 : Nat) : Int))) <|
  (dN (!(!((decide ((((List.getD a0 (Int.toNat i5) default).Span).From) = (((List.getD b1 (Int.toNat i5) default).Span).From))) && ((decide ((((List.getD a0 (Int.toNat i5) default).Span).To) = (((List.getD b1 (Int.toNat i5) default).Span).To))) && true)))) (pL ((List.getD a0 (Int.toNat i5) default).Rows) ((List.getD b1 (Int.toNat i5) default).Rows))).bind fun x7 =>
  cond ((!((decide ((((List.getD a0 (Int.toNat i5) default).Span).From) = (((List.getD b1 (Int.toNat i5) default).Span).From))) && ((decide ((((List.getD a0 (Int.toNat i5) default).Span).To) = (((List.getD b1 (Int.toNat i5) default).Span).To))) && true))) || (!x7))
  (some (.inr (.inr false)))
  (some (.inl (IntKind.i64.wrap (i5 + (1 : Int))))))
  (some (.inr (.inl ())))

noncomputable def yS (a0 : (List aN)) (b1 : (List aN)) (i5 : Int) : Option Bool :=
  (lp (fun s => rM a0 b1 s) i5).bind (Sum.elim (fun rr => uQ ) (fun rr => some rr))

noncomputable def wU (a0 : (List aN)) (b1 : (List aN)) : Option Bool :=
  cond (!decide (((List.length a0 : Nat) : Int) = ((List.length b1 : Nat) : Int)))
  (some false)
  (yS a0 b1 (0 : Int))

noncomputable def pU (w0 : bY) (l1 : (List aE)) (t2 : Int) : Option Bool :=
  (oR w0 l1 t2).bind fun x1 =>
  (yG l1 x1.1).bind fun x4 =>
  cond (((!decide (x1.2 = (0 : Int))) || (!decide (x4.2 = (0 : Int)))) || (decide ((1125899906842624 : Int) ≤ t2)))
  ((sX ).bind fun x8 =>
  some x8)
  ((oR w0 x4.1 t2).bind fun x11 =>
  (oQ w0 l1 x1.1 t2).bind fun x14 =>
  (oQ w0 x4.1 x1.1 t2).bind fun x17 =>
  (sX ).bind fun x20 =>
  (dN (((x20 && (decide (x11.2 = (0 : Int)))) && (decide (x1.1 = x11.1))) && (decide (x14.2 = x17.2))) (wU x14.1 x17.1)).bind fun x23 =>
  some ((((x20 && (decide (x11.2 = (0 : Int)))) && (decide (x1.1 = x11.1))) && (decide (x14.2 = x17.2))) && x23))

end Go.Abs
namespace Go.Abs
open Go Go.RowKit
def yR (x : bY) : Prop := vH x.Kind ∧ vH x.Size ∧ vH x.Hop ∧ True

def EA (x : aI) : Prop := vH x.Kind ∧ vH x.Num ∧ (fun s => s.size ≤ maxLen) x.Text ∧ True

def yD (x : aE) : Prop := (fun l => (∀ a ∈ l, EA a) ∧ l.length * 32 ≤ 140737488351232) x.Row ∧ vH x.At ∧ vH x.Net ∧ True

end Go.Abs
namespace Go.Abs
open Go Go.RowKit Go.Proofs
noncomputable def tt : TT := ⟨aA8 Try.prog, XB Try.prog⟩

theorem aC : iB Try.prog tt := iB.of Try.prog

theorem ET (n0 : Int) (r : Bool) (h0 : qS n0 = some r) : cZ Try.prog 39 [(eI n0)] (aD r) := by
 intro H0
 refine cY Try.func39 ?_
 have hO := aM.start H0
 unfold qS at h0
 refine aX aC 1 [] [] ?_
 refine bW aC 7 [(2, (aD ((decide ((1 : Int) ≤ n0)) && (decide (n0 ≤ (1099511627776 : Int))))))] ?_
 refine bG ?_
 obtain rfl := oI h0
 exact aF (Q_r hO)

theorem GY (w0 : bY) (r : Int) (h0 : qP w0 = some r) : cZ Try.prog 18 [(cP w0)] (eI r) := by
 intro H0
 refine cY Try.func18 ?_
 have hO := aM.start H0
 unfold qP at h0
 refine aO ?_
 refine aS aC 2 ?_
 refine fT 3 (cP w0) (by kernel_rfl) (by kernel_rfl) ?_
 refine bA ?_
 refine bD [(1, (.rp (cP w0)))] ?_
 refine aX aC 1 [] [(3, (.fn (.func 39) [] []))] ?_
 refine aX aC 1 [] [(4, (aD false))] ?_
 refine eR (fun T H => ∃ ok4 : Bool, Has T [(4, (aD ok4))] ∧ aM ⟨H0, [], []⟩ H [] ∧ lF ok4 = some r) ?_ ?_
 ·clear hO h0
  rintro T H ⟨ok4, hT, hO, h0⟩
  refine bF hT ?_
  clear hT
  unfold lF at h0
  refine aO ?_
  refine bW aC 2 [(45, (aD (!ok4)))] ?_
  refine bK h0 (fun h0 => ?_) (fun h0 => ?_)
  ·refine bW aC 1 [(2, (eI (2 : Int)))] ?_
   refine bG ?_
   obtain rfl := oI h0
   exact aF (aT (Q_r hO))
  refine bN ?_
  refine bD [] ?_
  refine bW aC 1 [(2, (eI (0 : Int)))] ?_
  refine bG ?_
  obtain rfl := oI h0
  exact aF (Q_r hO)
 refine aX aC 2 [] [(6, (eI w0.Kind))] ?_
 refine bX 0 ?_
 refine aX aC 2 [] [(7, (aD (decide (w0.Kind = (1 : Int)))))] ?_
 refine bK h0 (fun h0 => ?_) (fun h0 => ?_)
 ·refine aS aC 9 ?_
  refine bA ?_
  exact aF (aV (aG (⟨rfl, _, .eq (by kernel_rfl), hO, h0⟩)))
 refine bW aC 2 [(1, (.rp (cP w0))), (3, (.fn (.func 39) [] [])), (4, (aD false)), (6, (eI w0.Kind)), (17, (aD (decide (w0.Kind = (2 : Int)))))] ?_
 refine bK h0 (fun h0 => ?_) (fun h0 => ?_)
 ·refine aS aC 11 ?_
  refine bI 3 ?_
  obtain ⟨x4, hx5, h0⟩ := aW h0
  refine cX (ET w0.Size _ hx5) hO ?_
  intro H hO
  refine bI 8 ?_
  obtain ⟨x7, hx8, h0⟩ := aW h0
  refine nB [(23, true)] 39 [(eI w0.Hop)] (aD x7) x4 (by kernel_rfl) (by kernel_rfl) (by kernel_rfl) (fun hb9 => (ET w0.Hop _ (jG hx8 hb9))) hO ?_
  intro H hO
  refine bA ?_
  exact aF (aV (aG (⟨rfl, _, .eq (by kernel_rfl), hO, h0⟩)))
 refine aX aC 2 [3, 6, 17] [(29, (aD (decide (w0.Kind = (3 : Int)))))] ?_
 refine bK h0 (fun h0 => ?_) (fun h0 => ?_)
 ·refine aS aC 14 ?_
  refine bA ?_
  exact aF (aV (aG (⟨rfl, _, .eq (by kernel_rfl), hO, h0⟩)))
 refine bN ?_
 exact aF (aV (aG (⟨rfl, _, .eq (by kernel_rfl), hO, h0⟩)))

theorem FZ (l0 : (List aE)) (r : (List aE)) (h0 : qL l0 = some r) : cZ Try.prog 56 [(eL aH l0)] (.fn (.func 72) [] [(.rp (eL aH r))]) := by
 intro H0
 refine cY Try.func56 ?_
 have hO := aM.start H0
 unfold qL at h0
 refine aO ?_
 refine aS aC 2 ?_
 refine fT 1 (eL aH l0) (by kernel_rfl) (by kernel_rfl) ?_
 refine bA ?_
 refine bD [(1, (.rp (eL aH l0)))] ?_
 refine bW aC 2 [(2, (.fn (.func 72) [] [(.rp (eL aH l0))]))] ?_
 refine bG ?_
 obtain rfl := oI h0
 exact aF (kA (x := (.fn (.func 72) [] [(.rp (eL aH l0))])) (by kernel_rfl) (aR.refl _) ⟨rfl, hO.out⟩)

theorem rC (s10 : (List aI)) (s21 : (List aI)) (r : Bool) (h0 : fZ s10 s21 = some r) : cZ Try.prog 67 [(eL aJ s10), (eL aJ s21)] (aD r) := by
 intro H0
 refine cY Try.func67 ?_
 have hO := aM.start H0
 unfold fZ at h0
 refine aX aC 1 [] [] ?_
 refine aO ?_
 refine aX aC 5 [] [(10, (aD (!decide ((lN s10) = (lN s21)))))] ?_
 refine bK h0 (fun h0 => ?_) (fun h0 => ?_)
 ·refine bW aC 1 [(4, (aD false))] ?_
  refine bG ?_
  obtain rfl := oI h0
  exact aF (aT (Q_r hO))
 refine bN ?_
 refine bD [(0, (eL aJ s10)), (1, (eL aJ s21))] ?_
 refine eR (fun T H => Has T [] ∧ aM ⟨H0, [], []⟩ H [] ∧ iH  = some r) ?_ ?_
 ·clear hO h0
  rintro T H ⟨hT, hO, h0⟩
  refine bF hT ?_
  clear hT
  unfold iH at h0
  refine bW aC 1 [(4, (aD true))] ?_
  refine bG ?_
  obtain rfl := oI h0
  exact aF (Q_r hO)
 refine aX aC 3 [] [(12, (eI (lN s10))), (13, (eI (0 : Int)))] ?_
 refine bX 0 ?_
 refine eD [(0, (eL aJ s10)), (1, (eL aJ s21)), (12, (eI (lN s10))), (13, (eI (0 : Int)))] ?_
 refine eE (fun T H => ∃ t12 : Int, ∃ t13 : Int, Has T [(0, (eL aJ s10)), (1, (eL aJ s21)), (12, (eI t12)), (13, (eI t13))] ∧ aM ⟨H0, [], []⟩ H [] ∧ kH s10 s21 t12 t13 = some r) ?_ ⟨(lN s10), (0 : Int), .eq (by kernel_rfl), hO, h0⟩
 clear hO h0
 rintro T H ⟨t12, t13, hT, hO, h0⟩
 refine bF hT ?_
 clear hT
 unfold kH at h0
 obtain ⟨rr0, hl0, h0⟩ := aW h0
 refine dK (by kernel_rfl) (fun (s : Int) T H => Has T [(0, (eL aJ s10)), (1, (eL aJ s21)), (12, (eI t12)), (13, (eI s))] ∧ aM ⟨H0, [], []⟩ H []) hl0 ⟨.eq (by kernel_rfl), hO⟩ ?_
 clear hO
 rintro k0 s out1 T H ⟨hT, hO⟩ h1 ho0
 obtain ⟨t13, rfl⟩ : ∃ x, x = s := ⟨_, rfl⟩
 replace h1 : fP s10 s21 t12 t13 = some out1 := h1
 refine bF hT ?_
 clear hT
 unfold fP at h1
 refine aX aC 1 [] [(14, (aD (decide (t13 < t12))))] ?_
 refine aO ?_
 refine bK h1 (fun h1 => ?_) (fun h1 => ?_)
 ·refine bN ?_
  refine bD [(0, (eL aJ s10)), (1, (eL aJ s21)), (12, (eI t12)), (13, (eI t13))] ?_
  refine aO ?_
  refine bX 1 ?_
  refine aX aC 2 [] [(5, (eI t13))] ?_
  refine aO ?_
  refine fS (fR [19, 23]) aC 9 ?_
  obtain ⟨c3, h1⟩ := aZ h1
  obtain ⟨c4, h1⟩ := aZ h1
  refine QJ (Ds := [0 ≤ t13 ∧ t13 < (lN s10), 0 ≤ t13 ∧ t13 < (lN s21)]) (by kernel_rfl) ⟨c3, c4, trivial⟩ ?_
  refine bP [5] [(24, (aD (!((decide (((gD s10 t13).Kind) = ((gD s21 t13).Kind))) && ((decide (((gD s10 t13).Num) = ((gD s21 t13).Num))) && ((qF ((gD s10 t13).Text) ((gD s21 t13).Text)) && true))))))] ?_
  refine bK h1 (fun h1 => ?_) (fun h1 => ?_)
  ·refine bW aC 1 [(4, (aD false))] ?_
   refine bG ?_
   obtain rfl := oI h1
   obtain rfl : _ = rr0 := ho0
   replace h0 : some false = some r := h0
   obtain rfl := oI h0
   exact aF (bC (aT (aT (bC (aT (Q_r hO))))))
  refine bN ?_
  refine dP [(0, (eL aJ s10)), (1, (eL aJ s21)), (12, (eI t12)), (13, (eI t13))] ?_
  refine aF (aV (aG (?_)))
  refine aS aC 2 ?_
  refine bA ?_
  exact aF (aG (⟨rfl, _, (oI h1).symm, .eq (by kernel_rfl), hO⟩))
 refine gJ 0 ?_
 obtain rfl := oI h1
 obtain rfl : _ = rr0 := ho0
 replace h0 : iH  = some r := h0
 exact aF (aY (aY (bV (aG (⟨rfl, .eq (by kernel_rfl), hO, h0⟩)))))

theorem QS (a0 : (List aI)) (b1 : (List aI)) (r : Bool) (h0 : rY a0 b1 = some r) : cZ Try.prog 62 [(eL aJ a0), (eL aJ b1)] (aD r) := by
 intro H0
 refine cY Try.func62 ?_
 have hO := aM.start H0
 unfold rY at h0
 refine aX aC 1 [] [] ?_
 refine aO ?_
 refine aS aC 4 ?_
 refine bI 2 ?_
 obtain ⟨x1, hx2, h0⟩ := aW h0
 refine cX (rC a0 b1 _ hx2) hO ?_
 intro H hO
 refine bA ?_
 refine bD [(4, (aD x1))] ?_
 refine bG ?_
 obtain rfl := oI h0
 exact aF (Q_r hO)

theorem HL (r0 : (List aI)) (r : (List aI)) (h0 : tV r0 = some r) : cZ Try.prog 63 [(eL aJ r0)] (eL aJ r) := by
 intro H0
 refine cY Try.func63 ?_
 have hO := aM.start H0
 unfold tV at h0
 refine aX aC 1 [] [] ?_
 refine aO ?_
 refine aS aC 6 ?_
 refine bI 2 ?_
 obtain ⟨c1, h0⟩ := aZ h0
 refine LM 3 32 (lN r0) (by kernel_rfl) (by kernel_rfl) c1 hO ?_
 intro lo2 H hO
 refine bI 4 ?_
 obtain ⟨c4, h0⟩ := aZ h0
 refine vF (e := aJ) ([] : List aI) r0 0 lo2 3 32 (eL aJ r0) (fun lo3 => [(lo3, 3, List.map aJ (([] : List aI) ++ r0))]) (by kernel_rfl) (by kernel_rfl) hO (by kernel_rfl) (RT (fun _ => by kernel_rfl)) c4 (fun _ => by kernel_rfl) ?_
 intro lo3 H hO
 refine bA ?_
 refine bD [(2, (.msl 3 lo3 0 (List.length (([] : List aI) ++ r0))))] ?_
 refine bG ?_
 refine dP [(2, (.msl 3 lo3 0 (List.length (([] : List aI) ++ r0))))] ?_
 refine tM (en := aJ) (([] : List aI) ++ r0) 0 0 2 3 lo3 (List.length (([] : List aI) ++ r0)) hO (by kernel_rfl) (by kernel_rfl) (by kernel_rfl) (L' := []) (by kernel_rfl) ?_
 intro H5 hO
 obtain rfl := oI h0
 exact aF (Q_r hO)

theorem AR {σ : Type} (I : σ → Gs → Prop) (yield0_b : Nat) (cG : σ → (List aI) → (List aB) → Option (σ × Bool)) (yield0_h : ∀ st a0 a1 st2 r, cG st a0 a1 = some (st2, r) → BQ Try.prog (yv yield0_b) I st [(eL aJ a0), (eL aK a1)] st2 (aD r)) (t1 : (List aE)) (sg0 : σ) (r : σ) (h0 : nS cG t1 sg0 = some r) : xN Try.prog 72 I sg0 [(yv yield0_b), (.rp (eL aH t1))] r (.tup []) := by
 intro H0 G0 hI hg
 refine cY Try.func72 ?_
 obtain ⟨G, hO, hI⟩ : ∃ G, aM ⟨H0, List.map (fun p : Nat × dL => p.1) G0, G⟩ H0 [] ∧ I sg0 G := ⟨G0, aM.DV hg, hI⟩
 clear hg
 unfold nS at h0
 refine aX aC 1 [] [(3, (eI (0 : Int)))] ?_
 refine bX 0 ?_
 refine eD [(0, (yv yield0_b)), (1, (.rp (eL aH t1))), (3, (eI (0 : Int)))] ?_
 refine eE (fun T H => ∃ sg : σ, ∃ i3 : Int, ∃ G : Gs, Has T [(0, (yv yield0_b)), (1, (.rp (eL aH t1))), (3, (eI i3))] ∧ aM ⟨H0, List.map (fun p : Nat × dL => p.1) G0, G⟩ H [] ∧ I sg G ∧ uA cG sg t1 i3 = some r) ?_ ⟨sg0, (0 : Int), G, .eq (by kernel_rfl), hO, hI, h0⟩
 clear hO hI h0
 rintro T H ⟨sg, i3, G, hT, hO, hI, h0⟩
 refine bF hT ?_
 clear hT
 unfold uA at h0
 obtain ⟨rr0, hl0, h0⟩ := aW h0
 refine dK (by kernel_rfl) (fun (s : σ × Int) T H => ∃ G : Gs, Has T [(0, (yv yield0_b)), (1, (.rp (eL aH t1))), (3, (eI s.2))] ∧ aM ⟨H0, List.map (fun p : Nat × dL => p.1) G0, G⟩ H [] ∧ I s.1 G) hl0 ⟨G, .eq (by kernel_rfl), hO, hI⟩ ?_
 clear hO hI
 rintro k0 s out1 T H ⟨G, hT, hO, hI⟩ h1 ho0
 obtain ⟨sg, i3⟩ := s
 replace h1 : jK cG t1 sg i3 = some out1 := h1
 try dsimp only at hT
 refine bF hT ?_
 clear hT
 unfold jK at h1
 refine aO ?_
 refine aX aC 4 [] [(9, (aD (decide (i3 < (lN t1)))))] ?_
 refine bK h1 (fun h1 => ?_) (fun h1 => ?_)
 ·refine bN ?_
  refine bD [(0, (yv yield0_b)), (1, (.rp (eL aH t1))), (3, (eI i3))] ?_
  refine bX 1 ?_
  refine aO ?_
  refine aS aC 6 ?_
  obtain ⟨c2, h1⟩ := aZ h1
  refine pZ [0 ≤ i3 ∧ i3 < (lN t1)] ⟨c2, trivial⟩ ?_
  refine bP [] [(4, (eL aJ ((gD t1 i3).Row)))] ?_
  refine aO ?_
  refine aS aC 2 ?_
  refine oE (xs := []) (k := 2) (by kernel_rfl) (by kernel_rfl) ?_
  refine bA ?_
  refine bP [] [(5, (.sl true 0 (fun _ => .bad)))] ?_
  refine eR (fun T H => ∃ sg : σ, ∃ i3 : Int, ∃ r4 : (List aI), ∃ f5 : List aB, ∃ lo3 : Nat, ∃ G : Gs, Has T [(0, (yv yield0_b)), (1, (.rp (eL aH t1))), (3, (eI i3)), (4, (eL aJ r4)), (5, (.msl 2 lo3 0 (List.length f5)))] ∧ aM ⟨H0, List.map (fun p : Nat × dL => p.1) G0, G⟩ H [(lo3, 2, List.map aK f5)] ∧ I sg G ∧ rB cG sg t1 i3 r4 f5 = some out1) ?_ ?_
  ·clear hO hI h1
   rintro T H ⟨sg, i3, r4, f5, lo3, G, hT, hO, hI, h1⟩
   refine bF hT ?_
   clear hT
   unfold rB at h1
   refine aO ?_
   refine aS aC 6 ?_
   refine KE (e := aK) f5 0 5 2 lo3 (List.length f5) [] (by kernel_rfl) hO (by kernel_rfl) (by kernel_rfl) (by kernel_rfl) (by kernel_rfl) ?_
   intro H hO
   refine bI 2 ?_
   obtain ⟨x7, hx8, h1⟩ := aW h1
   refine cX (HL r4 _ hx8) hO ?_
   intro H hO
   refine bI 4 ?_
   obtain ⟨x10, hx11, h1⟩ := aW h1
   refine LR (I := I) (yv yield0_b) [(eL aJ x7), (eL aK f5)] (aD x10.2) (by kernel_rfl) (by kernel_rfl) (yield0_h _ x7 f5 x10.1 x10.2 hx11) hO hI ?_
   intro G H hO hI
   refine bA ?_
   refine bP [4, 5] [(50, (aD (!x10.2)))] ?_
   refine bK h1 (fun h1 => ?_) (fun h1 => ?_)
   ·refine bG ?_
    obtain rfl := oI h1
    obtain rfl : _ = rr0 := ho0
    replace h0 : some x10.1 = some r := h0
    obtain rfl := oI h0
    exact aF (bC (aT (bC (kA (x := (.tup [])) (by kernel_rfl) (aR.refl _) ⟨rfl, G, hI, hO.zE⟩))))
   refine bN ?_
   exact aF (aV (aG (⟨rfl, _, (oI h1).symm, _, .eq (by kernel_rfl), hO, hI⟩)))
  refine bX 2 ?_
  refine eD [(0, (yv yield0_b)), (1, (.rp (eL aH t1))), (3, (eI i3)), (4, (eL aJ ((gD t1 i3).Row))), (5, (.sl true 0 (fun _ => .bad)))] ?_
  refine OC (el := (fun _ => .bad)) 4 5 2 hO (by kernel_rfl) ?_
  intro lo24 H25 hO
  refine eE (fun T H => ∃ sg : σ, ∃ i3 : Int, ∃ r4 : (List aI), ∃ f5 : List aB, ∃ lo14 : Nat, ∃ G : Gs, Has T [(0, (yv yield0_b)), (1, (.rp (eL aH t1))), (3, (eI i3)), (4, (eL aJ r4)), (5, (.msl 2 lo14 0 (List.length f5)))] ∧ aM ⟨H0, List.map (fun p : Nat × dL => p.1) G0, G⟩ H [(lo14, 2, List.map aK f5)] ∧ I sg G ∧ tZ cG sg t1 i3 r4 f5 = some out1) ?_ ⟨sg, i3, (gD t1 i3).Row, ([] : List aB), lo24, G, .eq (by kernel_rfl), hO, hI, h1⟩
  clear hO hI h1
  rintro T H ⟨sg, i3, r4, f5, lo14, G, hT, hO, hI, h1⟩
  refine bF hT ?_
  clear hT
  unfold tZ at h1
  obtain ⟨rr1, hl1, h1⟩ := aW h1
  refine dK (by kernel_rfl) (fun (s : σ × Int × List aB) T H => ∃ lo14 : Nat, ∃ G : Gs, Has T [(0, (yv yield0_b)), (1, (.rp (eL aH t1))), (3, (eI s.2.1)), (4, (eL aJ r4)), (5, (.msl 2 lo14 0 (List.length s.2.2)))] ∧ aM ⟨H0, List.map (fun p : Nat × dL => p.1) G0, G⟩ H [(lo14, 2, List.map aK s.2.2)] ∧ I s.1 G) hl1 ⟨lo14, G, .eq (by kernel_rfl), hO, hI⟩ ?_
  clear hO hI
  rintro k1 s out2 T H ⟨lo14, G, hT, hO, hI⟩ h2 ho1
  obtain ⟨sg, i3, f5⟩ := s
  replace h2 : kM cG t1 r4 sg i3 f5 = some out2 := h2
  try dsimp only at hT
  refine bF hT ?_
  clear hT
  unfold kM at h2
  refine aO ?_
  refine aO ?_
  refine aS aC 13 ?_
  obtain ⟨c15, h2⟩ := aZ h2
  refine sG 11 [(((decide (i3 < (lN t1)))) = true → 0 ≤ i3 ∧ i3 < (lN t1))] ⟨c15, trivial⟩ ?_
  obtain ⟨x16, hx17, h2⟩ := aW h2
  refine nB [(20, true)] 62 [(eL aJ ((gD t1 i3).Row)), (eL aJ r4)] (aD x16) (decide (i3 < (lN t1))) (by kernel_rfl) (by kernel_rfl) (by kernel_rfl) (fun hb18 => (QS ((gD t1 i3).Row) r4 _ (jG hx17 hb18))) hO ?_
  intro H hO
  refine bA ?_
  refine bP [] [(28, (aD ((decide (i3 < (lN t1))) && x16)))] ?_
  refine bK h2 (fun h2 => ?_) (fun h2 => ?_)
  ·refine bN ?_
   refine bD [(0, (yv yield0_b)), (1, (.rp (eL aH t1))), (3, (eI i3)), (4, (eL aJ r4)), (5, (.msl 2 lo14 0 (List.length f5)))] ?_
   refine aO ?_
   refine bX 3 ?_
   refine fS (fR [32, 36, 37, 41, 43]) aC 15 ?_
   obtain ⟨c20, h2⟩ := aZ h2
   obtain ⟨c21, h2⟩ := aZ h2
   refine cJ 12 [0 ≤ i3 ∧ i3 < (lN t1), 0 ≤ i3 ∧ i3 < (lN t1)] ⟨c20, c21, trivial⟩ ?_
   refine VE (xs := [(aK (aB.mk ((gD t1 i3).At) ((gD t1 i3).Net)))]) (k := 2) (by kernel_rfl) (by kernel_rfl) ?_
   obtain ⟨c23, h2⟩ := aZ h2
   refine LL (e := aK) f5 ([aB.mk ((gD t1 i3).At) ((gD t1 i3).Net)]) 0 lo14 2 16 (fM [(aK (aB.mk ((gD t1 i3).At) ((gD t1 i3).Net)))]) (fun lo22 => [(lo22, 2, List.map aK (f5 ++ ([aB.mk ((gD t1 i3).At) ((gD t1 i3).Net)])))]) (by kernel_rfl) (by kernel_rfl) hO (by kernel_rfl) (by kernel_rfl) c23 (fun _ => by kernel_rfl) ?_
   intro lo22 H hO
   refine kI ?_
   refine dP [(0, (yv yield0_b)), (1, (.rp (eL aH t1))), (3, (eI i3)), (4, (eL aJ r4)), (5, (.msl 2 lo22 0 (List.length (f5 ++ ([aB.mk ((gD t1 i3).At) ((gD t1 i3).Net)])))))] ?_
   refine aF (aV (aG (?_)))
   refine aS aC 3 ?_
   refine bA ?_
   exact aF (aG (⟨rfl, _, (oI h2).symm, _, _, .eq (by kernel_rfl), hO, hI⟩))
  refine gJ 2 ?_
  obtain rfl := oI h2
  obtain rfl : _ = rr1 := ho1
  replace h1 : rB cG sg t1 i3 r4 f5 = some out1 := h1
  exact aF (aY (aY (bV (aG (⟨rfl, _, _, _, _, _, _, .eq (by kernel_rfl), hO, hI, h1⟩)))))
 refine gJ 0 ?_
 obtain rfl := oI h1
 obtain rfl : _ = rr0 := ho0
 replace h0 : some sg = some r := h0
 obtain rfl := oI h0
 exact aF (aY (aY (bV (yU (x := (.tup [])) (by kernel_rfl) (aR.refl _) ⟨rfl, G, hI, hO.zE⟩))))

theorem wX (s0 : (List aI)) (f1_f : Nat) (f1_a f1_c : List V) (f1 : aI → Option Bool) (f1_h : ∀ a0 r, f1 a0 = some r → cZ Try.prog f1_f (f1_a ++ [(aJ a0)] ++ f1_c) (aD r)) (r : Int) (h0 : jD s0 f1 = some r) : cZ Try.prog 88 [(eL aJ s0), (.fn (.func f1_f) f1_a f1_c)] (eI r) := by
 intro H0
 refine cY Try.func88 ?_
 have hO := aM.start H0
 unfold jD at h0
 refine aX aC 1 [] [] ?_
 refine eR (fun T H => Has T [] ∧ aM ⟨H0, [], []⟩ H [] ∧ gH f1  = some r) ?_ ?_
 ·clear hO h0
  rintro T H ⟨hT, hO, h0⟩
  refine bF hT ?_
  clear hT
  unfold gH at h0
  refine bW aC 1 [(4, (eI (-1 : Int)))] ?_
  refine bG ?_
  obtain rfl := oI h0
  exact aF (Q_r hO)
 refine aX aC 3 [] [(7, (eI (lN s0))), (8, (eI (0 : Int)))] ?_
 refine bX 0 ?_
 refine eD [(0, (eL aJ s0)), (1, (.fn (.func f1_f) f1_a f1_c)), (7, (eI (lN s0))), (8, (eI (0 : Int)))] ?_
 refine eE (fun T H => ∃ t7 : Int, ∃ t8 : Int, Has T [(0, (eL aJ s0)), (1, (.fn (.func f1_f) f1_a f1_c)), (7, (eI t7)), (8, (eI t8))] ∧ aM ⟨H0, [], []⟩ H [] ∧ iY f1 s0 t7 t8 = some r) ?_ ⟨(lN s0), (0 : Int), .eq (by kernel_rfl), hO, h0⟩
 clear hO h0
 rintro T H ⟨t7, t8, hT, hO, h0⟩
 refine bF hT ?_
 clear hT
 unfold iY at h0
 obtain ⟨rr0, hl0, h0⟩ := aW h0
 refine dK (by kernel_rfl) (fun (s : Int) T H => Has T [(0, (eL aJ s0)), (1, (.fn (.func f1_f) f1_a f1_c)), (7, (eI t7)), (8, (eI s))] ∧ aM ⟨H0, [], []⟩ H []) hl0 ⟨.eq (by kernel_rfl), hO⟩ ?_
 clear hO
 rintro k0 s out1 T H ⟨hT, hO⟩ h1 ho0
 obtain ⟨t8, rfl⟩ : ∃ x, x = s := ⟨_, rfl⟩
 replace h1 : iX f1 s0 t7 t8 = some out1 := h1
 refine bF hT ?_
 clear hT
 unfold iX at h1
 refine aX aC 1 [] [(9, (aD (decide (t8 < t7))))] ?_
 refine aO ?_
 refine bK h1 (fun h1 => ?_) (fun h1 => ?_)
 ·refine bN ?_
  refine bD [(0, (eL aJ s0)), (1, (.fn (.func f1_f) f1_a f1_c)), (7, (eI t7)), (8, (eI t8))] ?_
  refine aO ?_
  refine bX 1 ?_
  refine aX aC 2 [] [(5, (eI t8))] ?_
  refine aO ?_
  refine aS aC 6 ?_
  obtain ⟨c2, h1⟩ := aZ h1
  refine sG 5 [0 ≤ t8 ∧ t8 < (lN s0)] ⟨c2, trivial⟩ ?_
  obtain ⟨x3, hx4, h1⟩ := aW h1
  refine cX (f1_h (gD s0 t8) _ hx4) hO ?_
  intro H hO
  refine dG ?_
  refine bP [] [(16, (aD x3))] ?_
  refine bK h1 (fun h1 => ?_) (fun h1 => ?_)
  ·refine bW aC 2 [(4, (eI t8))] ?_
   refine bG ?_
   obtain rfl := oI h1
   obtain rfl : _ = rr0 := ho0
   replace h0 : some t8 = some r := h0
   obtain rfl := oI h0
   exact aF (bC (aT (aT (bC (aT (Q_r hO))))))
  refine bN ?_
  refine dP [(0, (eL aJ s0)), (1, (.fn (.func f1_f) f1_a f1_c)), (7, (eI t7)), (8, (eI t8))] ?_
  refine aF (aV (aG (?_)))
  refine aS aC 2 ?_
  refine bA ?_
  exact aF (aG (⟨rfl, _, (oI h1).symm, .eq (by kernel_rfl), hO⟩))
 refine gJ 0 ?_
 obtain rfl := oI h1
 obtain rfl : _ = rr0 := ho0
 replace h0 : gH f1  = some r := h0
 exact aF (aY (aY (bV (aG (⟨rfl, .eq (by kernel_rfl), hO, h0⟩)))))

theorem uV (s0 : (List aI)) (f1_f : Nat) (f1_a f1_c : List V) (f1 : aI → Option Bool) (f1_h : ∀ a0 r, f1 a0 = some r → cZ Try.prog f1_f (f1_a ++ [(aJ a0)] ++ f1_c) (aD r)) (r : Bool) (h0 : fK s0 f1 = some r) : cZ Try.prog 85 [(eL aJ s0), (.fn (.func f1_f) f1_a f1_c)] (aD r) := by
 intro H0
 refine cY Try.func85 ?_
 have hO := aM.start H0
 unfold fK at h0
 refine aX aC 1 [] [] ?_
 refine aO ?_
 refine aS aC 5 ?_
 refine bI 2 ?_
 obtain ⟨x1, hx2, h0⟩ := aW h0
 refine cX (wX s0 f1_f f1_a f1_c f1 f1_h _ hx2) hO ?_
 intro H hO
 refine bA ?_
 refine bD [(4, (aD (decide ((0 : Int) ≤ x1))))] ?_
 refine bG ?_
 obtain rfl := oI h0
 exact aF (Q_r hO)

theorem AA (v0 : aI) (r : (bO × Bool)) (h0 : mT v0 = some r) : cZ Try.prog 98 [(aJ v0)] (.tup [(bL r.1), (aD r.2)]) := by
 intro H0
 refine cY Try.func98 ?_
 have hO := aM.start H0
 unfold mT at h0
 refine aO ?_
 refine aS aC 3 ?_
 refine fT 3 (aJ v0) (by kernel_rfl) (by kernel_rfl) ?_
 refine bA ?_
 refine bD [(1, (.rp (aJ v0)))] ?_
 refine aO ?_
 refine bX 0 ?_
 refine aX aC 9 [] [(4, (aD ((decide (v0.Kind = (1 : Int))) && (qF v0.Text (⟨#[]⟩ : ByteArray)))))] ?_
 refine bK h0 (fun h0 => ?_) (fun h0 => ?_)
 ·refine bW aC 5 [(2, (bL (bO.k_number v0.Num))), (3, (aD true))] ?_
  refine bG ?_
  obtain rfl := oI h0
  exact aF (bC (aT (Q_r hO)))
 refine aX aC 15 [4] [(16, (aD (((decide (v0.Kind = (2 : Int))) && (decide (v0.Num = (0 : Int)))) && (decide (((ByteArray.size v0.Text : Nat) : Int) ≤ (64 : Int))))))] ?_
 refine bK h0 (fun h0 => ?_) (fun h0 => ?_)
 ·refine bW aC 5 [(2, (bL (bO.k_words v0.Text))), (3, (aD true))] ?_
  refine bG ?_
  obtain rfl := oI h0
  exact aF (bC (aT (Q_r hO)))
 refine bN ?_
 refine dP [] ?_
 refine aF (aV (aG (?_)))
 refine bW aC 2 [(2, (bL bO.none_)), (3, (aD false))] ?_
 refine bG ?_
 obtain rfl := oI h0
 exact aF (Q_r hO)

theorem aAm (v0 : aI) (r : Bool) (h0 : xY v0 = some r) : cZ Try.prog 87 [(aJ v0)] (aD r) := by
 intro H0
 refine cY Try.func87 ?_
 have hO := aM.start H0
 unfold xY at h0
 refine aO ?_
 refine aS aC 2 ?_
 refine fT 3 (aJ v0) (by kernel_rfl) (by kernel_rfl) ?_
 refine bA ?_
 refine bD [(1, (.rp (aJ v0)))] ?_
 refine aO ?_
 refine aS aC 7 ?_
 refine bI 1 ?_
 obtain ⟨⟨x1_0, x1_1⟩, hx2, h0⟩ := aW h0
 refine cX (AA v0 _ hx2) hO ?_
 intro H hO
 rcases x1_0 with _ | y4 | y5
 ·replace h0 : (some x1_1) = some r := h0
  refine bA ?_
  refine bD [(4, (aD x1_1))] ?_
  refine bW aC 2 [(2, (aD x1_1))] ?_
  refine bG ?_
  obtain rfl := oI h0
  exact aF (Q_r hO)
 ·replace h0 : (some x1_1) = some r := h0
  refine bA ?_
  refine bD [(4, (aD x1_1))] ?_
  refine bW aC 2 [(2, (aD x1_1))] ?_
  refine bG ?_
  obtain rfl := oI h0
  exact aF (Q_r hO)
 ·replace h0 : (some x1_1) = some r := h0
  refine bA ?_
  refine bD [(4, (aD x1_1))] ?_
  refine bW aC 2 [(2, (aD x1_1))] ?_
  refine bG ?_
  obtain rfl := oI h0
  exact aF (Q_r hO)

theorem ZU (v0 : aI) (r : Bool) (h0 : yA v0 = some r) : cZ Try.prog 86 [(aJ v0)] (aD r) := by
 intro H0
 refine cY Try.func86 ?_
 have hO := aM.start H0
 unfold yA at h0
 refine aO ?_
 refine aS aC 2 ?_
 refine fT 3 (aJ v0) (by kernel_rfl) (by kernel_rfl) ?_
 refine bA ?_
 refine bD [(1, (.rp (aJ v0)))] ?_
 refine aO ?_
 refine aS aC 4 ?_
 refine bI 1 ?_
 obtain ⟨x1, hx2, h0⟩ := aW h0
 refine cX (aAm v0 _ hx2) hO ?_
 intro H hO
 refine bA ?_
 refine bD [(2, (aD (!x1)))] ?_
 refine bG ?_
 obtain rfl := oI h0
 exact aF (Q_r hO)

theorem KB (r0 : (List aI)) (r : Bool) (h0 : wT r0 = some r) : cZ Try.prog 68 [(eL aJ r0)] (aD r) := by
 intro H0
 refine cY Try.func68 ?_
 have hO := aM.start H0
 unfold wT at h0
 refine aX aC 1 [] [] ?_
 refine aO ?_
 refine aX aC 3 [] [(5, (aD (decide ((8 : Int) < (lN r0)))))] ?_
 refine bK h0 (fun h0 => ?_) (fun h0 => ?_)
 ·refine bW aC 1 [(2, (aD false))] ?_
  refine bG ?_
  obtain rfl := oI h0
  exact aF (aT (Q_r hO))
 refine bN ?_
 refine bD [(0, (eL aJ r0))] ?_
 refine aO ?_
 refine aS aC 4 ?_
 refine bI 1 ?_
 obtain ⟨x2, hx3, h0⟩ := aW h0
 refine cX (uV r0 86 [] [] (fun y0 => yA y0) (fun y0 r h => ZU y0 r h) _ hx3) hO ?_
 intro H hO
 refine bA ?_
 refine bD [(2, (aD (!x2)))] ?_
 refine bG ?_
 obtain rfl := oI h0
 exact aF (Q_r hO)

theorem OV (t0 : (List aI)) (r : (Int × (List aI))) (h0 : vY t0 = some r) : FK Try.prog 89 [(.rp (eL aJ t0))] (fun lo => (.fn (.func 90) [] [(.lp lo 0 0), (.rp (eL aJ r.2))])) 1 [(eI r.1)] := by
 intro H0
 refine cY Try.func89 ?_
 have hO := aM.start H0
 unfold vY at h0
 refine aX aC 1 [] [] ?_
 refine aO ?_
 refine aS aC 2 ?_
 refine kY 1 (eI 0) (by kernel_rfl) (by kernel_rfl) hO ?_
 intro lo1 H hO
 refine gY 0 lo1 1 0 (eI 0) (eI (-1 : Int)) [(eI 0)] [(lo1, 1, [(eI (-1 : Int))])] hO rfl (by kernel_rfl) ?_
 intro H hO
 refine dG ?_
 refine bP [] [(2, (.lp lo1 0 0))] ?_
 refine aX aC 2 [0] [(1, (.fn (.func 90) [] [(.lp lo1 0 0), (.rp (eL aJ t0))]))] ?_
 refine bG ?_
 obtain rfl := oI h0
 exact aF (kA (x := (.fn (.func 90) [] [(.lp lo1 0 0), (.rp (eL aJ t0))])) (by kernel_rfl) (aR.refl _) ⟨lo1, rfl, hO⟩)

theorem vJ {σ : Type} (I : σ → Gs → Prop) (s0 : (List aI)) (f1_v : V) (f1 : σ → aI → Option (σ × Bool)) (f1_h : ∀ st a0 st2 r, f1 st a0 = some (st2, r) → BQ Try.prog f1_v I st [(aJ a0)] st2 (aD r)) (sg0 : σ) (r : (σ × Int)) (h0 : iU s0 f1 sg0 = some r) : xN Try.prog 88 I sg0 [(eL aJ s0), f1_v] r.1 (eI r.2) := by
 intro H0 G0 hI hg
 refine cY Try.func88 ?_
 obtain ⟨G, hO, hI⟩ : ∃ G, aM ⟨H0, List.map (fun p : Nat × dL => p.1) G0, G⟩ H0 [] ∧ I sg0 G := ⟨G0, aM.DV hg, hI⟩
 clear hg
 unfold iU at h0
 refine aX aC 1 [] [] ?_
 refine eR (fun T H => ∃ sg : σ, ∃ G : Gs, Has T [] ∧ aM ⟨H0, List.map (fun p : Nat × dL => p.1) G0, G⟩ H [] ∧ I sg G ∧ fJ f1 sg = some r) ?_ ?_
 ·clear hO hI h0
  rintro T H ⟨sg, G, hT, hO, hI, h0⟩
  refine bF hT ?_
  clear hT
  unfold fJ at h0
  refine bW aC 1 [(4, (eI (-1 : Int)))] ?_
  refine bG ?_
  obtain rfl := oI h0
  exact aF (kA (x := (eI (-1 : Int))) (by kernel_rfl) (aR.refl _) ⟨rfl, G, hI, hO.zE⟩)
 refine aX aC 3 [] [(7, (eI (lN s0))), (8, (eI (0 : Int)))] ?_
 refine bX 0 ?_
 refine eD [(0, (eL aJ s0)), (1, f1_v), (7, (eI (lN s0))), (8, (eI (0 : Int)))] ?_
 refine eE (fun T H => ∃ sg : σ, ∃ t7 : Int, ∃ t8 : Int, ∃ G : Gs, Has T [(0, (eL aJ s0)), (1, f1_v), (7, (eI t7)), (8, (eI t8))] ∧ aM ⟨H0, List.map (fun p : Nat × dL => p.1) G0, G⟩ H [] ∧ I sg G ∧ iP f1 sg s0 t7 t8 = some r) ?_ ⟨sg0, (lN s0), (0 : Int), G, .eq (by kernel_rfl), hO, hI, h0⟩
 clear hO hI h0
 rintro T H ⟨sg, t7, t8, G, hT, hO, hI, h0⟩
 refine bF hT ?_
 clear hT
 unfold iP at h0
 obtain ⟨rr0, hl0, h0⟩ := aW h0
 refine dK (by kernel_rfl) (fun (s : σ × Int) T H => ∃ G : Gs, Has T [(0, (eL aJ s0)), (1, f1_v), (7, (eI t7)), (8, (eI s.2))] ∧ aM ⟨H0, List.map (fun p : Nat × dL => p.1) G0, G⟩ H [] ∧ I s.1 G) hl0 ⟨G, .eq (by kernel_rfl), hO, hI⟩ ?_
 clear hO hI
 rintro k0 s out1 T H ⟨G, hT, hO, hI⟩ h1 ho0
 obtain ⟨sg, t8⟩ := s
 replace h1 : cK f1 s0 t7 sg t8 = some out1 := h1
 try dsimp only at hT
 refine bF hT ?_
 clear hT
 unfold cK at h1
 refine aX aC 1 [] [(9, (aD (decide (t8 < t7))))] ?_
 refine aO ?_
 refine bK h1 (fun h1 => ?_) (fun h1 => ?_)
 ·refine bN ?_
  refine bD [(0, (eL aJ s0)), (1, f1_v), (7, (eI t7)), (8, (eI t8))] ?_
  refine aO ?_
  refine bX 1 ?_
  refine aX aC 2 [] [(5, (eI t8))] ?_
  refine aO ?_
  refine aS aC 6 ?_
  obtain ⟨c2, h1⟩ := aZ h1
  refine sG 5 [0 ≤ t8 ∧ t8 < (lN s0)] ⟨c2, trivial⟩ ?_
  obtain ⟨x3, hx4, h1⟩ := aW h1
  refine LR (I := I) f1_v [(aJ (gD s0 t8))] (aD x3.2) (by kernel_rfl) (by kernel_rfl) (f1_h _ (gD s0 t8) x3.1 x3.2 hx4) hO hI ?_
  intro G H hO hI
  refine dG ?_
  refine bP [] [(16, (aD x3.2))] ?_
  refine bK h1 (fun h1 => ?_) (fun h1 => ?_)
  ·refine bW aC 2 [(4, (eI t8))] ?_
   refine bG ?_
   obtain rfl := oI h1
   obtain rfl : _ = rr0 := ho0
   replace h0 : some (x3.1, t8) = some r := h0
   obtain rfl := oI h0
   exact aF (bC (aT (aT (bC (aT (kA (x := (eI t8)) (by kernel_rfl) (aR.refl _) ⟨rfl, G, hI, hO.zE⟩))))))
  refine bN ?_
  refine dP [(0, (eL aJ s0)), (1, f1_v), (7, (eI t7)), (8, (eI t8))] ?_
  refine aF (aV (aG (?_)))
  refine aS aC 2 ?_
  refine bA ?_
  exact aF (aG (⟨rfl, _, (oI h1).symm, _, .eq (by kernel_rfl), hO, hI⟩))
 refine gJ 0 ?_
 obtain rfl := oI h1
 obtain rfl : _ = rr0 := ho0
 replace h0 : fJ f1 sg = some r := h0
 exact aF (aY (aY (bV (aG (⟨rfl, _, _, .eq (by kernel_rfl), hO, hI, h0⟩)))))

theorem LX (v0 : aI) (lo1p : Nat) (t1 : Int) (t2 : (List aI)) (r : (Bool × Int)) (h0 : kX v0 t1 t2 = some r) : rF Try.prog 90 lo1p 1 [(eI t1)] [(eI r.2)] [(aJ v0), (.lp lo1p 0 0), (.rp (eL aJ t2))] (aD r.1) := by
 intro H0 hl0
 refine cY Try.func90 ?_
 have hO := aM.tH hl0
 clear hl0
 unfold kX at h0
 refine aO ?_
 refine aS aC 2 ?_
 refine fT 3 (aJ v0) (by kernel_rfl) (by kernel_rfl) ?_
 refine bA ?_
 refine bP [0] [(3, (.rp (aJ v0)))] ?_
 refine aO ?_
 refine aS aC 3 ?_
 refine jJ 0 lo1p 1 0 (eI t1) (eI t1) [(eI t1)] hO rfl ?_
 refine bI 2 ?_
 refine gY 0 lo1p 1 0 (eI t1) (eI (wR (t1 + (1 : Int)))) [(eI t1)] [(lo1p, 1, [(eI (wR (t1 + (1 : Int))))])] hO rfl (by kernel_rfl) ?_
 intro H hO
 refine dG ?_
 refine bP [] [] ?_
 refine aO ?_
 refine fS (fR [7, 8, 11]) aC 7 ?_
 refine kJ 2 ?_
 refine fY 0 lo1p 1 0 (eI (wR (t1 + (1 : Int)))) (eI (wR (t1 + (1 : Int)))) [(eI (wR (t1 + (1 : Int))))] hO rfl ?_
 obtain ⟨c1, h0⟩ := aZ h0
 refine QJ (Ds := [0 ≤ (wR (t1 + (1 : Int))) ∧ (wR (t1 + (1 : Int))) < (lN t2)]) (by kernel_rfl) ⟨c1, trivial⟩ ?_
 refine bD [(1, (.lp lo1p 0 0)), (4, (aD (!((decide (v0.Kind = ((gD t2 (wR (t1 + (1 : Int)))).Kind))) && ((decide (v0.Num = ((gD t2 (wR (t1 + (1 : Int)))).Num))) && ((qF v0.Text ((gD t2 (wR (t1 + (1 : Int)))).Text)) && true))))))] ?_
 refine bG ?_
 obtain rfl := oI h0
 exact aF (kA (x := (aD (!((decide (v0.Kind = ((gD t2 (wR (t1 + (1 : Int)))).Kind))) && ((decide (v0.Num = ((gD t2 (wR (t1 + (1 : Int)))).Num))) && ((qF v0.Text ((gD t2 (wR (t1 + (1 : Int)))).Text)) && true)))))) (by kernel_rfl) (aR.refl _) ⟨rfl, hO.ext, hO.at 0 (by kernel_rfl), rfl⟩)

theorem vX (x0 : Int) (r : Bool) (h0 : lO x0 = some r) : cZ Try.prog 71 [(eI x0)] (aD r) := by
 intro H0
 refine cY Try.func71 ?_
 have hO := aM.start H0
 unfold lO at h0
 refine aX aC 1 [] [] ?_
 refine bW aC 4 [(2, (aD (!decide (x0 = x0))))] ?_
 refine bG ?_
 obtain rfl := oI h0
 exact aF (Q_r hO)

theorem LV (x0 : Int) (y1 : Int) (r : Int) (h0 : qD x0 y1 = some r) : cZ Try.prog 91 [(eI x0), (eI y1)] (eI r) := by
 intro H0
 refine cY Try.func91 ?_
 have hO := aM.start H0
 unfold qD at h0
 refine aX aC 1 [] [] ?_
 refine aO ?_
 refine aS aC 3 ?_
 refine bI 1 ?_
 obtain ⟨x1, hx2, h0⟩ := aW h0
 refine cX (vX x0 _ hx2) hO ?_
 intro H hO
 refine bA ?_
 refine bP [] [(5, (aD x1))] ?_
 refine aO ?_
 refine aS aC 3 ?_
 refine bI 1 ?_
 obtain ⟨x4, hx5, h0⟩ := aW h0
 refine cX (vX y1 _ hx5) hO ?_
 intro H hO
 refine bA ?_
 refine bP [] [(6, (aD x4))] ?_
 refine aO ?_
 refine aX aC 1 [5] [(11, (aD x1))] ?_
 refine bK h0 (fun h0 => ?_) (fun h0 => ?_)
 ·refine aO ?_
  refine bW aC 1 [(12, (aD x4))] ?_
  refine bK h0 (fun h0 => ?_) (fun h0 => ?_)
  ·refine bW aC 1 [(4, (eI (0 : Int)))] ?_
   refine bG ?_
   obtain rfl := oI h0
   exact aF (aT (aT (Q_r hO)))
  refine bN ?_
  refine bD [] ?_
  refine bW aC 1 [(4, (eI (-1 : Int)))] ?_
  refine bG ?_
  obtain rfl := oI h0
  exact aF (aT (Q_r hO))
 refine bN ?_
 refine bD [(0, (eI x0)), (1, (eI y1)), (6, (aD x4))] ?_
 refine aO ?_
 refine aX aC 1 [6] [(13, (aD x4))] ?_
 refine bK h0 (fun h0 => ?_) (fun h0 => ?_)
 ·refine bW aC 1 [(4, (eI (1 : Int)))] ?_
  refine bG ?_
  obtain rfl := oI h0
  exact aF (aT (Q_r hO))
 refine bN ?_
 refine bD [(0, (eI x0)), (1, (eI y1))] ?_
 refine aO ?_
 refine aX aC 3 [] [(16, (aD (decide (x0 < y1))))] ?_
 refine bK h0 (fun h0 => ?_) (fun h0 => ?_)
 ·refine bW aC 1 [(4, (eI (-1 : Int)))] ?_
  refine bG ?_
  obtain rfl := oI h0
  exact aF (aT (Q_r hO))
 refine bN ?_
 refine bD [(0, (eI x0)), (1, (eI y1))] ?_
 refine aO ?_
 refine bW aC 3 [(19, (aD (decide (y1 < x0))))] ?_
 refine bK h0 (fun h0 => ?_) (fun h0 => ?_)
 ·refine bW aC 1 [(4, (eI (1 : Int)))] ?_
  refine bG ?_
  obtain rfl := oI h0
  exact aF (aT (Q_r hO))
 refine bN ?_
 refine bD [] ?_
 refine bW aC 1 [(4, (eI (0 : Int)))] ?_
 refine bG ?_
 obtain rfl := oI h0
 exact aF (Q_r hO)

theorem wW (x0 : Int) (r : Bool) (h0 : lV x0 = some r) : cZ Try.prog 102 [(eI x0)] (aD r) := by
 intro H0
 refine cY Try.func102 ?_
 have hO := aM.start H0
 unfold lV at h0
 refine aX aC 1 [] [] ?_
 refine bW aC 4 [(2, (aD (!decide (x0 = x0))))] ?_
 refine bG ?_
 obtain rfl := oI h0
 exact aF (Q_r hO)

theorem CN (x0 : Int) (y1 : Int) (r : Int) (h0 : gW x0 y1 = some r) : cZ Try.prog 99 [(eI x0), (eI y1)] (eI r) := by
 intro H0
 refine cY Try.func99 ?_
 have hO := aM.start H0
 unfold gW at h0
 refine aX aC 1 [] [] ?_
 refine aO ?_
 refine aS aC 3 ?_
 refine bI 1 ?_
 obtain ⟨x1, hx2, h0⟩ := aW h0
 refine cX (wW x0 _ hx2) hO ?_
 intro H hO
 refine bA ?_
 refine bP [] [(5, (aD x1))] ?_
 refine aO ?_
 refine aS aC 3 ?_
 refine bI 1 ?_
 obtain ⟨x4, hx5, h0⟩ := aW h0
 refine cX (wW y1 _ hx5) hO ?_
 intro H hO
 refine bA ?_
 refine bP [] [(6, (aD x4))] ?_
 refine aO ?_
 refine aX aC 1 [5] [(11, (aD x1))] ?_
 refine bK h0 (fun h0 => ?_) (fun h0 => ?_)
 ·refine aO ?_
  refine bW aC 1 [(12, (aD x4))] ?_
  refine bK h0 (fun h0 => ?_) (fun h0 => ?_)
  ·refine bW aC 1 [(4, (eI (0 : Int)))] ?_
   refine bG ?_
   obtain rfl := oI h0
   exact aF (aT (aT (Q_r hO)))
  refine bN ?_
  refine bD [] ?_
  refine bW aC 1 [(4, (eI (-1 : Int)))] ?_
  refine bG ?_
  obtain rfl := oI h0
  exact aF (aT (Q_r hO))
 refine bN ?_
 refine bD [(0, (eI x0)), (1, (eI y1)), (6, (aD x4))] ?_
 refine aO ?_
 refine aX aC 1 [6] [(13, (aD x4))] ?_
 refine bK h0 (fun h0 => ?_) (fun h0 => ?_)
 ·refine bW aC 1 [(4, (eI (1 : Int)))] ?_
  refine bG ?_
  obtain rfl := oI h0
  exact aF (aT (Q_r hO))
 refine bN ?_
 refine bD [(0, (eI x0)), (1, (eI y1))] ?_
 refine aO ?_
 refine aX aC 3 [] [(16, (aD (decide (x0 < y1))))] ?_
 refine bK h0 (fun h0 => ?_) (fun h0 => ?_)
 ·refine bW aC 1 [(4, (eI (-1 : Int)))] ?_
  refine bG ?_
  obtain rfl := oI h0
  exact aF (aT (Q_r hO))
 refine bN ?_
 refine bD [(0, (eI x0)), (1, (eI y1))] ?_
 refine aO ?_
 refine bW aC 3 [(19, (aD (decide (y1 < x0))))] ?_
 refine bK h0 (fun h0 => ?_) (fun h0 => ?_)
 ·refine bW aC 1 [(4, (eI (1 : Int)))] ?_
  refine bG ?_
  obtain rfl := oI h0
  exact aF (aT (Q_r hO))
 refine bN ?_
 refine bD [] ?_
 refine bW aC 1 [(4, (eI (0 : Int)))] ?_
 refine bG ?_
 obtain rfl := oI h0
 exact aF (Q_r hO)

theorem zA (a0 : ByteArray) (b1 : ByteArray) (r : Int) (h0 : kO a0 b1 = some r) : cZ Try.prog 103 [(BL a0), (BL b1)] (eI r) := by
 intro H0
 refine cY Try.func103 ?_
 have hO := aM.start H0
 unfold kO at h0
 refine aX aC 1 [] [] ?_
 refine aO ?_
 refine aS aC 4 ?_
 refine bI 2 ?_
 refine aEU 104 [(BL a0), (BL b1)] (eI (RJ a0 b1)) (by kernel_rfl) (by kernel_rfl) (aD0 Try.func104 (by kernel_rfl) (by kernel_rfl) (by kernel_rfl) (by kernel_rfl) a0 b1) hO ?_
 intro H hO
 refine bA ?_
 refine bD [(4, (eI (RJ a0 b1)))] ?_
 refine bG ?_
 obtain rfl := oI h0
 exact aF (Q_r hO)

theorem LZ (a0 : ByteArray) (b1 : ByteArray) (r : Int) (h0 : nX a0 b1 = some r) : cZ Try.prog 100 [(BL a0), (BL b1)] (eI r) := by
 intro H0
 refine cY Try.func100 ?_
 have hO := aM.start H0
 unfold nX at h0
 refine aX aC 1 [] [] ?_
 refine aO ?_
 refine aS aC 4 ?_
 refine bI 2 ?_
 obtain ⟨x1, hx2, h0⟩ := aW h0
 refine cX (zA a0 b1 _ hx2) hO ?_
 intro H hO
 refine bA ?_
 refine bD [(4, (eI x1))] ?_
 refine bG ?_
 obtain rfl := oI h0
 exact aF (Q_r hO)

theorem OK (a0 : aI) (b1 : aI) (r : Int) (h0 : rW a0 b1 = some r) : cZ Try.prog 92 [(aJ a0), (aJ b1)] (eI r) := by
 intro H0
 refine cY Try.func92 ?_
 have hO := aM.start H0
 unfold rW at h0
 refine aO ?_
 refine aS aC 3 ?_
 refine fT 3 (aJ a0) (by kernel_rfl) (by kernel_rfl) ?_
 refine fT 3 (aJ b1) (by kernel_rfl) (by kernel_rfl) ?_
 refine bA ?_
 refine bD [(2, (.rp (aJ a0))), (3, (.rp (aJ b1)))] ?_
 refine aO ?_
 refine aS aC 7 ?_
 refine bI 1 ?_
 obtain ⟨⟨x1_0, x1_1⟩, hx2, h0⟩ := aW h0
 refine cX (AA a0 _ hx2) hO ?_
 intro H hO
 rcases x1_0 with _ | y4 | y5
 ·replace h0 : ((mT b1).bind fun (x6_0, x6_1) => match x6_0 with | .none_ => (cond ((!x1_1) || (!x6_1)) (some (0 : Int)) (none)) | .k_number y9 => (cond ((!x1_1) || (!x6_1)) (some (0 : Int)) (some (1 : Int))) | .k_words y10 => (cond ((!x1_1) || (!x6_1)) (some (0 : Int)) (none))) = some r := h0
  refine bA ?_
  refine bP [2] [(5, (bL bO.none_)), (6, (aD x1_1))] ?_
  refine aO ?_
  refine aS aC 7 ?_
  refine bI 1 ?_
  obtain ⟨⟨x6_0, x6_1⟩, hx7, h0⟩ := aW h0
  refine cX (AA b1 _ hx7) hO ?_
  intro H hO
  rcases x6_0 with _ | y9 | y10
  ·replace h0 : (cond ((!x1_1) || (!x6_1)) (some (0 : Int)) (none)) = some r := h0
   refine bA ?_
   refine bP [3] [(7, (bL bO.none_)), (8, (aD x6_1))] ?_
   refine aO ?_
   refine aX aC 6 [6, 8] [(28, (aD ((!x1_1) || (!x6_1))))] ?_
   refine bK h0 (fun h0 => ?_) (fun h0 => ?_)
   ·refine bW aC 1 [(4, (eI (0 : Int)))] ?_
    refine bG ?_
    obtain rfl := oI h0
    exact aF (aT (Q_r hO))
   refine bN ?_
   refine bD [(5, (bL bO.none_)), (7, (bL bO.none_))] ?_
   refine aX aC 7 [] [(9, (eI 0)), (10, (aD false))] ?_
   refine aX aC 7 [] [(11, (eI 0)), (12, (aD false))] ?_
   refine aO ?_
   refine bX 0 ?_
   refine aX aC 5 [] [(39, (aD false))] ?_
   refine mQ (false) (fun hc12 => ?_) (fun hc12 => ?_)
   ·cases hc12
   ·refine aX aC 2 [9, 10, 11, 39] [(47, (aD false))] ?_
    refine mQ (false) (fun hc13 => ?_) (fun hc13 => ?_)
    ·cases hc13
    ·refine bW aC 2 [(5, (bL bO.none_)), (7, (bL bO.none_)), (49, (aD false))] ?_
     refine mQ (false) (fun hc14 => ?_) (fun hc14 => ?_)
     ·cases hc14
     ·refine bN ?_
      refine dP [(5, (bL bO.none_)), (7, (bL bO.none_))] ?_
      refine aF (aV (aG (?_)))
      refine aO ?_
      refine fS (fR []) aC 6 ?_
      cases h0
  ·replace h0 : (cond ((!x1_1) || (!x6_1)) (some (0 : Int)) (some (1 : Int))) = some r := h0
   refine bA ?_
   refine bP [3] [(7, (bL (bO.k_number y9))), (8, (aD x6_1))] ?_
   refine aO ?_
   refine aX aC 6 [6, 8] [(28, (aD ((!x1_1) || (!x6_1))))] ?_
   refine bK h0 (fun h0 => ?_) (fun h0 => ?_)
   ·refine bW aC 1 [(4, (eI (0 : Int)))] ?_
    refine bG ?_
    obtain rfl := oI h0
    exact aF (aT (Q_r hO))
   refine bN ?_
   refine bD [(5, (bL bO.none_)), (7, (bL (bO.k_number y9)))] ?_
   refine aX aC 7 [] [(9, (eI 0)), (10, (aD false))] ?_
   refine aX aC 7 [] [(11, (eI y9)), (12, (aD true))] ?_
   refine aO ?_
   refine bX 0 ?_
   refine aX aC 5 [] [(39, (aD false))] ?_
   refine mQ (false) (fun hc16 => ?_) (fun hc16 => ?_)
   ·cases hc16
   ·refine aX aC 2 [9, 10, 11, 39] [(47, (aD false))] ?_
    refine mQ (false) (fun hc17 => ?_) (fun hc17 => ?_)
    ·cases hc17
    ·refine bW aC 2 [(5, (bL bO.none_)), (7, (bL (bO.k_number y9))), (49, (aD true))] ?_
     refine mQ (true) (fun hc18 => ?_) (fun hc18 => ?_)
     ·refine bW aC 1 [(4, (eI (1 : Int)))] ?_
      refine bG ?_
      obtain rfl := oI h0
      exact aF (bC (aT (Q_r hO)))
     ·cases hc18
  ·replace h0 : (cond ((!x1_1) || (!x6_1)) (some (0 : Int)) (none)) = some r := h0
   refine bA ?_
   refine bP [3] [(7, (bL (bO.k_words y10))), (8, (aD x6_1))] ?_
   refine aO ?_
   refine aX aC 6 [6, 8] [(28, (aD ((!x1_1) || (!x6_1))))] ?_
   refine bK h0 (fun h0 => ?_) (fun h0 => ?_)
   ·refine bW aC 1 [(4, (eI (0 : Int)))] ?_
    refine bG ?_
    obtain rfl := oI h0
    exact aF (aT (Q_r hO))
   refine bN ?_
   refine bD [(5, (bL bO.none_)), (7, (bL (bO.k_words y10)))] ?_
   refine aX aC 7 [] [(9, (eI 0)), (10, (aD false))] ?_
   refine aX aC 7 [] [(11, (eI 0)), (12, (aD false))] ?_
   refine aO ?_
   refine bX 0 ?_
   refine aX aC 5 [] [(39, (aD false))] ?_
   refine mQ (false) (fun hc20 => ?_) (fun hc20 => ?_)
   ·cases hc20
   ·refine aX aC 2 [9, 10, 11, 39] [(47, (aD false))] ?_
    refine mQ (false) (fun hc21 => ?_) (fun hc21 => ?_)
    ·cases hc21
    ·refine bW aC 2 [(5, (bL bO.none_)), (7, (bL (bO.k_words y10))), (49, (aD false))] ?_
     refine mQ (false) (fun hc22 => ?_) (fun hc22 => ?_)
     ·cases hc22
     ·refine bN ?_
      refine dP [(5, (bL bO.none_)), (7, (bL (bO.k_words y10)))] ?_
      refine aF (aV (aG (?_)))
      refine aO ?_
      refine fS (fR []) aC 6 ?_
      cases h0
 ·replace h0 : ((mT b1).bind fun (x23_0, x23_1) => match x23_0 with | .none_ => (cond ((!x1_1) || (!x23_1)) (some (0 : Int)) (some (-1 : Int))) | .k_number y26 => (cond ((!x1_1) || (!x23_1)) (some (0 : Int)) ((gW y4 y26).bind fun x33 => some x33)) | .k_words y27 => (cond ((!x1_1) || (!x23_1)) (some (0 : Int)) (some (-1 : Int)))) = some r := h0
  refine bA ?_
  refine bP [2] [(5, (bL (bO.k_number y4))), (6, (aD x1_1))] ?_
  refine aO ?_
  refine aS aC 7 ?_
  refine bI 1 ?_
  obtain ⟨⟨x23_0, x23_1⟩, hx24, h0⟩ := aW h0
  refine cX (AA b1 _ hx24) hO ?_
  intro H hO
  rcases x23_0 with _ | y26 | y27
  ·replace h0 : (cond ((!x1_1) || (!x23_1)) (some (0 : Int)) (some (-1 : Int))) = some r := h0
   refine bA ?_
   refine bP [3] [(7, (bL bO.none_)), (8, (aD x23_1))] ?_
   refine aO ?_
   refine aX aC 6 [6, 8] [(28, (aD ((!x1_1) || (!x23_1))))] ?_
   refine bK h0 (fun h0 => ?_) (fun h0 => ?_)
   ·refine bW aC 1 [(4, (eI (0 : Int)))] ?_
    refine bG ?_
    obtain rfl := oI h0
    exact aF (aT (Q_r hO))
   refine bN ?_
   refine bD [(5, (bL (bO.k_number y4))), (7, (bL bO.none_))] ?_
   refine aX aC 7 [] [(9, (eI y4)), (10, (aD true))] ?_
   refine aX aC 7 [] [(11, (eI 0)), (12, (aD false))] ?_
   refine aO ?_
   refine bX 0 ?_
   refine aX aC 5 [] [(39, (aD false))] ?_
   refine mQ (false) (fun hc29 => ?_) (fun hc29 => ?_)
   ·cases hc29
   ·refine aX aC 2 [9, 10, 11, 39] [(47, (aD true))] ?_
    refine mQ (true) (fun hc30 => ?_) (fun hc30 => ?_)
    ·refine bW aC 1 [(4, (eI (-1 : Int)))] ?_
     refine bG ?_
     obtain rfl := oI h0
     exact aF (bC (aT (Q_r hO)))
    ·cases hc30
  ·replace h0 : (cond ((!x1_1) || (!x23_1)) (some (0 : Int)) ((gW y4 y26).bind fun x33 => some x33)) = some r := h0
   refine bA ?_
   refine bP [3] [(7, (bL (bO.k_number y26))), (8, (aD x23_1))] ?_
   refine aO ?_
   refine aX aC 6 [6, 8] [(28, (aD ((!x1_1) || (!x23_1))))] ?_
   refine bK h0 (fun h0 => ?_) (fun h0 => ?_)
   ·refine bW aC 1 [(4, (eI (0 : Int)))] ?_
    refine bG ?_
    obtain rfl := oI h0
    exact aF (aT (Q_r hO))
   refine bN ?_
   refine bD [(5, (bL (bO.k_number y4))), (7, (bL (bO.k_number y26)))] ?_
   refine aX aC 7 [] [(9, (eI y4)), (10, (aD true))] ?_
   refine aX aC 7 [] [(11, (eI y26)), (12, (aD true))] ?_
   refine aO ?_
   refine bX 0 ?_
   refine aX aC 5 [] [(39, (aD true))] ?_
   refine mQ (true) (fun hc32 => ?_) (fun hc32 => ?_)
   ·refine aO ?_
    refine aS aC 4 ?_
    refine bI 2 ?_
    obtain ⟨x33, hx34, h0⟩ := aW h0
    refine cX (CN y4 y26 _ hx34) hO ?_
    intro H hO
    refine bA ?_
    refine bD [(4, (eI x33))] ?_
    refine bG ?_
    obtain rfl := oI h0
    exact aF (bC (aT (Q_r hO)))
   ·cases hc32
  ·replace h0 : (cond ((!x1_1) || (!x23_1)) (some (0 : Int)) (some (-1 : Int))) = some r := h0
   refine bA ?_
   refine bP [3] [(7, (bL (bO.k_words y27))), (8, (aD x23_1))] ?_
   refine aO ?_
   refine aX aC 6 [6, 8] [(28, (aD ((!x1_1) || (!x23_1))))] ?_
   refine bK h0 (fun h0 => ?_) (fun h0 => ?_)
   ·refine bW aC 1 [(4, (eI (0 : Int)))] ?_
    refine bG ?_
    obtain rfl := oI h0
    exact aF (aT (Q_r hO))
   refine bN ?_
   refine bD [(5, (bL (bO.k_number y4))), (7, (bL (bO.k_words y27)))] ?_
   refine aX aC 7 [] [(9, (eI y4)), (10, (aD true))] ?_
   refine aX aC 7 [] [(11, (eI 0)), (12, (aD false))] ?_
   refine aO ?_
   refine bX 0 ?_
   refine aX aC 5 [] [(39, (aD false))] ?_
   refine mQ (false) (fun hc37 => ?_) (fun hc37 => ?_)
   ·cases hc37
   ·refine aX aC 2 [9, 10, 11, 39] [(47, (aD true))] ?_
    refine mQ (true) (fun hc38 => ?_) (fun hc38 => ?_)
    ·refine bW aC 1 [(4, (eI (-1 : Int)))] ?_
     refine bG ?_
     obtain rfl := oI h0
     exact aF (bC (aT (Q_r hO)))
    ·cases hc38
 ·replace h0 : ((mT b1).bind fun (x39_0, x39_1) => match x39_0 with | .none_ => (cond ((!x1_1) || (!x39_1)) (some (0 : Int)) (none)) | .k_number y42 => (cond ((!x1_1) || (!x39_1)) (some (0 : Int)) (some (1 : Int))) | .k_words y43 => (cond ((!x1_1) || (!x39_1)) (some (0 : Int)) ((nX y5 y43).bind fun x56 => some x56))) = some r := h0
  refine bA ?_
  refine bP [2] [(5, (bL (bO.k_words y5))), (6, (aD x1_1))] ?_
  refine aO ?_
  refine aS aC 7 ?_
  refine bI 1 ?_
  obtain ⟨⟨x39_0, x39_1⟩, hx40, h0⟩ := aW h0
  refine cX (AA b1 _ hx40) hO ?_
  intro H hO
  rcases x39_0 with _ | y42 | y43
  ·replace h0 : (cond ((!x1_1) || (!x39_1)) (some (0 : Int)) (none)) = some r := h0
   refine bA ?_
   refine bP [3] [(7, (bL bO.none_)), (8, (aD x39_1))] ?_
   refine aO ?_
   refine aX aC 6 [6, 8] [(28, (aD ((!x1_1) || (!x39_1))))] ?_
   refine bK h0 (fun h0 => ?_) (fun h0 => ?_)
   ·refine bW aC 1 [(4, (eI (0 : Int)))] ?_
    refine bG ?_
    obtain rfl := oI h0
    exact aF (aT (Q_r hO))
   refine bN ?_
   refine bD [(5, (bL (bO.k_words y5))), (7, (bL bO.none_))] ?_
   refine aX aC 7 [] [(9, (eI 0)), (10, (aD false))] ?_
   refine aX aC 7 [] [(11, (eI 0)), (12, (aD false))] ?_
   refine aO ?_
   refine bX 0 ?_
   refine aX aC 5 [] [(39, (aD false))] ?_
   refine mQ (false) (fun hc45 => ?_) (fun hc45 => ?_)
   ·cases hc45
   ·refine aX aC 2 [9, 10, 11, 39] [(47, (aD false))] ?_
    refine mQ (false) (fun hc46 => ?_) (fun hc46 => ?_)
    ·cases hc46
    ·refine bW aC 2 [(5, (bL (bO.k_words y5))), (7, (bL bO.none_)), (49, (aD false))] ?_
     refine mQ (false) (fun hc47 => ?_) (fun hc47 => ?_)
     ·cases hc47
     ·refine bN ?_
      refine dP [(5, (bL (bO.k_words y5))), (7, (bL bO.none_))] ?_
      refine aF (aV (aG (?_)))
      refine aO ?_
      refine fS (fR []) aC 6 ?_
      cases h0
  ·replace h0 : (cond ((!x1_1) || (!x39_1)) (some (0 : Int)) (some (1 : Int))) = some r := h0
   refine bA ?_
   refine bP [3] [(7, (bL (bO.k_number y42))), (8, (aD x39_1))] ?_
   refine aO ?_
   refine aX aC 6 [6, 8] [(28, (aD ((!x1_1) || (!x39_1))))] ?_
   refine bK h0 (fun h0 => ?_) (fun h0 => ?_)
   ·refine bW aC 1 [(4, (eI (0 : Int)))] ?_
    refine bG ?_
    obtain rfl := oI h0
    exact aF (aT (Q_r hO))
   refine bN ?_
   refine bD [(5, (bL (bO.k_words y5))), (7, (bL (bO.k_number y42)))] ?_
   refine aX aC 7 [] [(9, (eI 0)), (10, (aD false))] ?_
   refine aX aC 7 [] [(11, (eI y42)), (12, (aD true))] ?_
   refine aO ?_
   refine bX 0 ?_
   refine aX aC 5 [] [(39, (aD false))] ?_
   refine mQ (false) (fun hc49 => ?_) (fun hc49 => ?_)
   ·cases hc49
   ·refine aX aC 2 [9, 10, 11, 39] [(47, (aD false))] ?_
    refine mQ (false) (fun hc50 => ?_) (fun hc50 => ?_)
    ·cases hc50
    ·refine bW aC 2 [(5, (bL (bO.k_words y5))), (7, (bL (bO.k_number y42))), (49, (aD true))] ?_
     refine mQ (true) (fun hc51 => ?_) (fun hc51 => ?_)
     ·refine bW aC 1 [(4, (eI (1 : Int)))] ?_
      refine bG ?_
      obtain rfl := oI h0
      exact aF (bC (aT (Q_r hO)))
     ·cases hc51
  ·replace h0 : (cond ((!x1_1) || (!x39_1)) (some (0 : Int)) ((nX y5 y43).bind fun x56 => some x56)) = some r := h0
   refine bA ?_
   refine bP [3] [(7, (bL (bO.k_words y43))), (8, (aD x39_1))] ?_
   refine aO ?_
   refine aX aC 6 [6, 8] [(28, (aD ((!x1_1) || (!x39_1))))] ?_
   refine bK h0 (fun h0 => ?_) (fun h0 => ?_)
   ·refine bW aC 1 [(4, (eI (0 : Int)))] ?_
    refine bG ?_
    obtain rfl := oI h0
    exact aF (aT (Q_r hO))
   refine bN ?_
   refine bD [(5, (bL (bO.k_words y5))), (7, (bL (bO.k_words y43)))] ?_
   refine aX aC 7 [] [(9, (eI 0)), (10, (aD false))] ?_
   refine aX aC 7 [] [(11, (eI 0)), (12, (aD false))] ?_
   refine aO ?_
   refine bX 0 ?_
   refine aX aC 5 [] [(39, (aD false))] ?_
   refine mQ (false) (fun hc53 => ?_) (fun hc53 => ?_)
   ·cases hc53
   ·refine aX aC 2 [9, 10, 11, 39] [(47, (aD false))] ?_
    refine mQ (false) (fun hc54 => ?_) (fun hc54 => ?_)
    ·cases hc54
    ·refine bW aC 2 [(5, (bL (bO.k_words y5))), (7, (bL (bO.k_words y43))), (49, (aD false))] ?_
     refine mQ (false) (fun hc55 => ?_) (fun hc55 => ?_)
     ·cases hc55
     ·refine bN ?_
      refine dP [(5, (bL (bO.k_words y5))), (7, (bL (bO.k_words y43)))] ?_
      refine aF (aV (aG (?_)))
      refine aO ?_
      refine fS (fR []) aC 6 ?_
      refine kJ 4 ?_
      obtain ⟨x56, hx57, h0⟩ := aW h0
      refine AY (LZ y5 y43 _ hx57) hO ?_
      intro H hO
      refine kI ?_
      refine bD [(4, (eI x56))] ?_
      refine bG ?_
      obtain rfl := oI h0
      exact aF (Q_r hO)

theorem UW (a0 : (List aI)) (b1 : (List aI)) (r : Int) (h0 : uG a0 b1 = some r) : cZ Try.prog 69 [(eL aJ a0), (eL aJ b1)] (eI r) := by
 intro H0
 refine cY Try.func69 ?_
 have hO := aM.start H0
 unfold uG at h0
 refine aO ?_
 refine aS aC 2 ?_
 refine fT 1 (eL aJ b1) (by kernel_rfl) (by kernel_rfl) ?_
 refine bA ?_
 refine bP [1] [(3, (.rp (eL aJ b1)))] ?_
 refine aO ?_
 refine aO ?_
 refine aS aC 8 ?_
 refine bI 1 ?_
 obtain ⟨x1, hx2, h0⟩ := aW h0
 refine cX (KB a0 _ hx2) hO ?_
 intro H hO
 refine bI 5 ?_
 obtain ⟨x4, hx5, h0⟩ := aW h0
 refine nB [(10, false)] 68 [(eL aJ b1)] (aD x4) (!(!x1)) (by kernel_rfl) (by kernel_rfl) (by kernel_rfl) (fun hb6 => (KB b1 _ (jG hx5 hb6))) hO ?_
 intro H hO
 refine bA ?_
 refine bP [] [(14, (aD ((!x1) || (!x4))))] ?_
 refine bK h0 (fun h0 => ?_) (fun h0 => ?_)
 ·refine bW aC 1 [(4, (eI (0 : Int)))] ?_
  refine bG ?_
  obtain rfl := oI h0
  exact aF (aT (Q_r hO))
 refine bN ?_
 refine bD [(0, (eL aJ a0)), (3, (.rp (eL aJ b1)))] ?_
 refine aX aC 6 [] [(5, (eI (if (lN b1) < (lN a0) then (lN b1) else (lN a0))))] ?_
 refine aO ?_
 refine fS (fR []) aC 7 ?_
 obtain ⟨c8, h0⟩ := aZ h0
 refine cJ 4 [0 ≤ (if (lN b1) < (lN a0) then (lN b1) else (lN a0)) ∧ (if (lN b1) < (lN a0) then (lN b1) else (lN a0)) ≤ (lN a0)] ⟨c8, trivial⟩ ?_
 obtain ⟨x9, hx10, h0⟩ := aW h0
 refine aE3 (L' := fun lo11 => [(lo11, 1, [(eI x9.1)])]) 1 [(eI x9.1)] 89 [(.rp (eL aJ b1))] (fun lo11 => (.fn (.func 90) [] [(.lp lo11 0 0), (.rp (eL aJ x9.2))])) (by kernel_rfl) (by kernel_rfl) (OV b1 _ hx10) hO (fun _ => by kernel_rfl) ?_
 intro lo11 H hO
 obtain ⟨x12, hx13, h0⟩ := aW h0
 refine aEQ (fun st G' => G' = up [(lo11, 1, [(eI st)])] ++ []) [(lo11, 1, [(eI x12.1)])] x9.1 x12.1 88 [(.sl false (Int.toNat (if (lN b1) < (lN a0) then (lN b1) else (lN a0))) (fun i => aJ (List.getD a0 i default))), (.fn (.func 90) [] [(.lp lo11 0 0), (.rp (eL aJ x9.2))])] (eI x12.2) (by kernel_rfl) (by kernel_rfl) (xN.sub (as0' := [(eL aJ (List.take (Int.toNat (if (lN b1) < (lN a0) then (lN b1) else (lN a0))) a0)), (.fn (.func 90) [] [(.lp lo11 0 0), (.rp (eL aJ x9.2))])]) (vJ _ (List.take (Int.toNat (if (lN b1) < (lN a0) then (lN b1) else (lN a0))) a0) (.fn (.func 90) [] [(.lp lo11 0 0), (.rp (eL aJ x9.2))]) (fun st y0 => (kX y0 st x9.2).bind fun o => some (o.2, o.1)) (fun st y0 st2 rr hr => (LX y0 lo11 st x9.2 _ (aGp hr)).toV (ys := []) (zs := [(aJ y0)]) (cs := [(.lp lo11 0 0), (.rp (eL aJ x9.2))]) (fun Gx hG => ⟨up [], up [] ++ [], hG, rfl⟩)) _ _ hx13) ⟨aAW (Int.toNat_le.2 (And.right c8)), aR.refl _, trivial⟩) hO rfl (fun _ h => h) ?_
 intro H hO
 refine kI ?_
 replace hO := hO.pick (L' := []) [] (by decide) (by kernel_rfl)
 refine bP [5] [(6, (eI x12.2))] ?_
 refine aO ?_
 refine aX aC 2 [] [(27, (aD (decide (x12.2 < (0 : Int)))))] ?_
 refine bK h0 (fun h0 => ?_) (fun h0 => ?_)
 ·refine aO ?_
  refine aS aC 6 ?_
  refine bI 4 ?_
  obtain ⟨x15, hx16, h0⟩ := aW h0
  refine cX (LV (lN a0) (lN b1) _ hx16) hO ?_
  intro H hO
  refine bA ?_
  refine bD [(4, (eI x15))] ?_
  refine bG ?_
  obtain rfl := oI h0
  exact aF (aT (Q_r hO))
 refine bN ?_
 refine bD [(0, (eL aJ a0)), (3, (.rp (eL aJ b1))), (6, (eI x12.2))] ?_
 refine aO ?_
 refine fS (fR [36, 37, 40, 41]) aC 10 ?_
 obtain ⟨c18, h0⟩ := aZ h0
 obtain ⟨c19, h0⟩ := aZ h0
 refine cJ 8 [0 ≤ x12.2 ∧ x12.2 < (lN a0), 0 ≤ x12.2 ∧ x12.2 < (lN b1)] ⟨c18, c19, trivial⟩ ?_
 obtain ⟨x20, hx21, h0⟩ := aW h0
 refine AY (OK (gD a0 x12.2) (gD b1 x12.2) _ hx21) hO ?_
 intro H hO
 refine kI ?_
 refine bD [(4, (eI x20))] ?_
 refine bG ?_
 obtain rfl := oI h0
 exact aF (Q_r hO)

theorem MJ (l0 : (List aE)) (holds1_f : Nat) (holds1_a holds1_c : List V) (wA : (List aB) → Option Bool) (holds1_h : ∀ a0 r, wA a0 = some r → cZ Try.prog holds1_f (holds1_a ++ [(eL aK a0)] ++ holds1_c) (aD r)) (r : Bool) (h0 : uY l0 wA = some r) : cZ Try.prog 48 [(eL aH l0), (.fn (.func holds1_f) holds1_a holds1_c)] (aD r) := by
 intro H0
 refine zN aC Try.func48 (by kernel_rfl) (by kernel_rfl) (by kernel_rfl) ?_
 have hO := aM.start H0
 unfold uY at h0
 refine aO ?_
 refine aS aC 2 ?_
 refine fT 1 (.fn (.func holds1_f) holds1_a holds1_c) (by kernel_rfl) (by kernel_rfl) ?_
 refine kY 1 (aD false) (by kernel_rfl) (by kernel_rfl) hO ?_
 intro lo1 H hO
 refine dG ?_
 refine bP [1] [(3, (.rp (.fn (.func holds1_f) holds1_a holds1_c))), (4, (.lp lo1 0 0))] ?_
 refine aO ?_
 refine aX aC 3 [] [(11, (aD (decide ((4096 : Int) < (lN l0)))))] ?_
 refine bK h0 (fun h0 => ?_) (fun h0 => ?_)
 ·refine aO ?_
  refine aS aC 1 ?_
  refine gY 0 lo1 1 0 (aD false) (aD false) [(aD false)] [(lo1, 1, [(aD false)])] hO rfl (by kernel_rfl) ?_
  intro H hO
  refine dG ?_
  refine bD [(4, (.lp lo1 0 0))] ?_
  refine bG ?_
  obtain rfl := oI h0
  exact aF (aT (QM0 (.inr rfl) (rs := [.cell 4 4]) (xs := [(aD false)]) (x := (aD false)) (by kernel_rfl) (lR (lo := lo1) (k := 1) (y := (aD false)) (x := (aD false)) 0 hO (by kernel_rfl) (by kernel_rfl) (by kernel_rfl) (by kernel_rfl) mY) (by kernel_rfl) ⟨rfl, hO.out⟩))
 refine bN ?_
 refine bD [(0, (eL aH l0)), (3, (.rp (.fn (.func holds1_f) holds1_a holds1_c))), (4, (.lp lo1 0 0))] ?_
 refine aO ?_
 refine aS aC 1 ?_
 refine oO 1 (.sl true 0 (fun _ => .bad)) (eL aJ ([])) (by kernel_rfl) (by kernel_rfl) (by kernel_rfl) (eN) (by kernel_rfl) (by kernel_rfl) hO ?_
 intro lo3 H hO
 refine dG ?_
 refine bP [] [(5, (.lp lo3 0 0))] ?_
 refine aO ?_
 refine aS aC 2 ?_
 refine kY 1 (aD false) (by kernel_rfl) (by kernel_rfl) hO ?_
 intro lo4 H hO
 refine gY 2 lo4 1 0 (aD false) (aD false) [(aD false)] [(lo1, 1, [(aD false)]), (lo3, 1, [(eL aJ ([]))]), (lo4, 1, [(aD false)])] hO rfl (by kernel_rfl) ?_
 intro H hO
 refine dG ?_
 refine bP [] [(6, (.lp lo4 0 0))] ?_
 refine aO ?_
 refine aO ?_
 refine aS aC 2 ?_
 refine bI 1 ?_
 obtain ⟨x5, hx6, h0⟩ := aW h0
 refine cX (FZ l0 _ hx6) hO ?_
 intro H hO
 refine dG ?_
 refine bP [0] [(13, (.fn (.func 72) [] [(.rp (eL aH x5))]))] ?_
 refine bX 0 ?_
 refine eD [(3, (.rp (.fn (.func holds1_f) holds1_a holds1_c))), (4, (.lp lo1 0 0)), (5, (.lp lo3 0 0)), (6, (.lp lo4 0 0)), (13, (.fn (.func 72) [] [(.rp (eL aH x5))]))] ?_
 refine eE (fun T H => ∃ t4 : Bool, ∃ qI : (List aI), ∃ lJ : Bool, ∃ mG : (List aE), Has T [(3, (.rp (.fn (.func holds1_f) holds1_a holds1_c))), (4, (.lp lo1 0 0)), (5, (.lp lo3 0 0)), (6, (.lp lo4 0 0)), (13, (.fn (.func 72) [] [(.rp (eL aH mG))]))] ∧ aM ⟨H0, [], []⟩ H [(lo1, 1, [(aD t4)]), (lo3, 1, [(eL aJ qI)]), (lo4, 1, [(aD lJ)])] ∧ AN wA t4 qI lJ mG = some r) ?_ ⟨false, [], false, x5, .eq (by kernel_rfl), hO, h0⟩
 clear hO h0
 rintro T H ⟨t4, qI, lJ, mG, hT, hO, h0⟩
 refine bF (l := [(3, (.rp (.fn (.func holds1_f) holds1_a holds1_c))), (4, (.lp lo1 0 0)), (5, (.lp lo3 0 0)), (6, (.lp lo4 0 0)), (13, (.fn (.func 72) [] [(.rp (eL aH mG))]))]) hT ?_
 clear hT
 unfold AN at h0
 obtain ⟨o0, hl0, h0⟩ := aW h0
 refine wO (fid := 72) (ys := []) (cs := [(.rp (eL aH mG))]) #[14, 15] (fun (A : rT) (b lL : Nat) (st : (Bool × (List aI) × Bool) ⊕ (Bool × (List aI) × Bool)) (G' : Gs) => Sum.elim (fun (s : Bool × (List aI) × Bool) => G' = (lL, .raw (gQ b A .ready none)) :: (up [(lo1, 1, [(aD s.1)]), (lo3, 1, [(eL aJ s.2.1)]), (lo4, 1, [(aD s.2.2)])] ++ [])) (fun (s : Bool × (List aI) × Bool) => G' = (lL, .raw (gQ b A .done (some .ret))) :: (up [(lo1, 1, [(aD s.1)]), (lo3, 1, [(eL aJ s.2.1)]), (lo4, 1, [(aD s.2.2)])] ++ [])) st) (.inl (t4, qI, lJ)) o0 (.tup []) (by kernel_rfl) (by kernel_rfl) (by kernel_rfl) hO (fun _ _ => rfl) ?_ ?_
 ·intro b lL
  clear hO h0
  refine AR _ b (fun st t14 t15 => rnd (fun (s : Bool × (List aI) × Bool) => qY wA mG s.1 s.2.1 s.2.2 t14 t15) st) ?_ mG _ _ hl0
  intro st t14 t15 out1 rr hr
  obtain ⟨s, rfl, h1, rfl⟩ := ID hr
  clear hr
  intro Hr Gr hi hg
  obtain ⟨t4, qI, lJ⟩ := s
  dsimp only [Sum.elim_inl] at hi
  obtain rfl := hi
  replace h1 : qY wA mG t4 qI lJ t14 t15 = some out1 := h1
  unfold qY at h1
  obtain ⟨E1, hE, hO⟩ := pE hg
  refine pF (uF (hO.gm 0 _ rfl).2 (by kernel_rfl) (by kernel_rfl) ?_)
  refine eD [(3, (.rp (.fn (.func holds1_f) holds1_a holds1_c))), (4, (.lp lo1 0 0)), (5, (.lp lo3 0 0)), (6, (.lp lo4 0 0)), (13, (.fn (.func 72) [] [(.rp (eL aH mG))])), (14, (eL aJ t14)), (15, (eL aK t15))] ?_
  refine aX aC 1 [13, 14] [(7, (eL aJ t14))] ?_
  refine aS aC 1 ?_
  refine bA ?_
  refine dP [(3, (.rp (.fn (.func holds1_f) holds1_a holds1_c))), (4, (.lp lo1 0 0)), (5, (.lp lo3 0 0)), (6, (.lp lo4 0 0)), (7, (eL aJ t14)), (8, (eL aK t15))] ?_
  refine aF (⟨rfl, rfl, (hO.gm 0 _ rfl).2, ?_⟩)
  intro o1 ho1
  replace hO := hO.nI o1
  refine bX 1 ?_
  refine aO ?_
  refine aO ?_
  refine aS aC 18 ?_
  refine bI 1 ?_
  obtain ⟨x7, hx8, h1⟩ := aW h1
  refine cX (KB t14 _ hx8) hO ?_
  intro H hO
  refine bI 4 ?_
  refine rR [(19, false)] 2 lo4 1 0 (aD lJ) (aD lJ) [(aD lJ)] (by kernel_rfl) (by kernel_rfl) hO (by kernel_rfl) (!(!x7)) (by kernel_rfl) (fun hb10 => rfl) ?_
  refine bI 6 ?_
  refine rR [(21, true), (19, false)] 1 lo3 1 0 (eL aJ qI) (eL aJ qI) [(eL aJ qI)] (by kernel_rfl) (by kernel_rfl) hO (by kernel_rfl) (lJ && (!(!x7))) (by kernel_rfl) (fun hb11 => rfl) ?_
  refine bI 8 ?_
  obtain ⟨x12, hx13, h1⟩ := aW h1
  refine nB [(21, true), (19, false)] 69 [(eL aJ qI), (eL aJ t14)] (eI x12) (lJ && (!(!x7))) (by kernel_rfl) (by kernel_rfl) (by kernel_rfl) (fun hb14 => (UW qI t14 _ (jG hx13 hb14))) hO ?_
  intro H hO
  refine bI 15 ?_
  obtain ⟨x15, hx16, h1⟩ := aW h1
  refine nB [(28, false)] holds1_f (holds1_a ++ [(eL aK t15)] ++ holds1_c) (aD x15) (!((!x7) || (lJ && (decide ((0 : Int) ≤ x12))))) (by kernel_rfl) (by kernel_rfl) (by kernel_rfl) (fun hb17 => (holds1_h t15 _ (jG hx16 hb17))) hO ?_
  intro H hO
  refine bA ?_
  refine bP [3, 8] [(33, (aD (((!x7) || (lJ && (decide ((0 : Int) ≤ x12)))) || (!x15))))] ?_
  refine bK h1 (fun h1 => ?_) (fun h1 => ?_)
  ·refine aO ?_
   refine aS aC 1 ?_
   refine gY 0 lo1 1 0 (aD t4) (aD false) [(aD t4)] [(lo1, 1, [(aD false)]), (lo3, 1, [(eL aJ qI)]), (lo4, 1, [(aD lJ)])] hO rfl (by kernel_rfl) ?_
   intro H hO
   refine dG ?_
   refine bP [7, 33] [] ?_
   refine bG ?_
   refine dP [(4, (.lp lo1 0 0)), (5, (.lp lo3 0 0)), (6, (.lp lo4 0 0))] ?_
   obtain rfl := oI h1
   exact aF (aT (bC (⟨(dA hO hE ho1 .dead).1, rfl, _, rfl, (dA hO hE ho1 _).2⟩)))
  refine bN ?_
  refine bD [(4, (.lp lo1 0 0)), (5, (.lp lo3 0 0)), (6, (.lp lo4 0 0)), (7, (eL aJ t14))] ?_
  refine aS aC 3 ?_
  refine bI 1 ?_
  refine gY 1 lo3 1 0 (eL aJ qI) (eL aJ t14) [(eL aJ qI)] [(lo1, 1, [(aD t4)]), (lo3, 1, [(eL aJ t14)]), (lo4, 1, [(aD lJ)])] hO rfl (by kernel_rfl) ?_
  intro H hO
  refine gY 2 lo4 1 0 (aD lJ) (aD true) [(aD lJ)] [(lo1, 1, [(aD t4)]), (lo3, 1, [(eL aJ t14)]), (lo4, 1, [(aD true)])] hO rfl (by kernel_rfl) ?_
  intro H hO
  refine dG ?_
  refine dP [(4, (.lp lo1 0 0)), (5, (.lp lo3 0 0)), (6, (.lp lo4 0 0))] ?_
  obtain rfl := oI h1
  exact aF (aV (⟨(dA hO hE ho1 .dead).1, rfl, _, rfl, (dA hO hE ho1 _).2⟩))
 ·intro b lD19 lL H' G' hi hO
  rcases o0 with s | s
  ·dsimp only [Sum.elim_inl] at hi
   obtain rfl := hi
   replace h0 : (some true) = some r := h0
   obtain ⟨hlL, hO⟩ := mB hO
   refine ⟨_, _, hlL, (by intro e; cases e), ?_⟩
   refine dP [(4, (.lp lo1 0 0))] ?_
   replace hO := hO.pick (L' := [(lo1, 1, [(aD s.1)])]) [0] (by decide) (by kernel_rfl)
   refine aF (aV (aG (?_)))
   refine aO ?_
   refine aS aC 1 ?_
   refine gY 0 lo1 1 0 (aD s.1) (aD true) [(aD s.1)] [(lo1, 1, [(aD true)])] hO rfl (by kernel_rfl) ?_
   intro H hO
   refine dG ?_
   refine bD [(4, (.lp lo1 0 0))] ?_
   refine bG ?_
   obtain rfl := oI h0
   have hD := (hO.gm 0 _ rfl).2
   replace hO := (hO.nI .dead).nM
   exact aF (QM1 (.inr rfl) hD (rs := [.cell 4 4]) (xs := [(aD true)]) (x := (aD true)) (by kernel_rfl) (lR (lo := lo1) (k := 1) (y := (aD true)) (x := (aD true)) 0 hO (by kernel_rfl) (by kernel_rfl) (by kernel_rfl) (by kernel_rfl) mY) (by kernel_rfl) ⟨rfl, hO.out⟩)
  ·dsimp only [Sum.elim_inr] at hi
   obtain rfl := hi
   replace h0 : (some s.1) = some r := h0
   obtain ⟨hlL, hO⟩ := mB hO
   refine ⟨_, _, hlL, (by intro e; cases e), ?_⟩
   refine bG ?_
   replace hO := hO.pick (L' := [(lo1, 1, [(aD s.1)])]) [0] (by decide) (by kernel_rfl)
   obtain rfl := oI h0
   have hD := (hO.gm 0 _ rfl).2
   replace hO := (hO.nI .dead).nM
   exact aF (bC (aT (QM1 (.inr rfl) hD (rs := [.cell 4 4]) (xs := [(aD s.1)]) (x := (aD s.1)) (by kernel_rfl) (lR (lo := lo1) (k := 1) (y := (aD s.1)) (x := (aD s.1)) 0 hO (by kernel_rfl) (by kernel_rfl) (by kernel_rfl) (by kernel_rfl) mY) (by kernel_rfl) ⟨rfl, hO.out⟩)))

theorem aAg (n0 : Int) (r : Bool) (h0 : BP n0 = some r) : cZ Try.prog 58 [(eI n0)] (aD r) := by
 intro H0
 refine cY Try.func58 ?_
 have hO := aM.start H0
 unfold BP at h0
 refine aX aC 1 [] [] ?_
 refine bW aC 7 [(2, (aD ((decide (n0 ≤ (1048576 : Int))) && (decide ((-1048576 : Int) ≤ n0)))))] ?_
 refine bG ?_
 obtain rfl := oI h0
 exact aF (Q_r hO)

theorem xG (f0 : (List aB)) (r : Bool) (h0 : nQ f0 = some r) : cZ Try.prog 36 [(eL aK f0)] (aD r) := by
 intro H0
 refine cY Try.func36 ?_
 have hO := aM.start H0
 unfold nQ at h0
 refine aX aC 1 [] [] ?_
 refine aO ?_
 refine aX aC 3 [] [(8, (aD (decide ((1024 : Int) < (lN f0)))))] ?_
 refine bK h0 (fun h0 => ?_) (fun h0 => ?_)
 ·refine bW aC 1 [(2, (aD false))] ?_
  refine bG ?_
  obtain rfl := oI h0
  exact aF (aT (Q_r hO))
 refine bN ?_
 refine bD [(0, (eL aK f0))] ?_
 refine aX aC 1 [] [(3, (eI (-2 : Int)))] ?_
 refine eR (fun T H => Has T [] ∧ aM ⟨H0, [], []⟩ H [] ∧ yM  = some r) ?_ ?_
 ·clear hO h0
  rintro T H ⟨hT, hO, h0⟩
  refine bF hT ?_
  clear hT
  unfold yM at h0
  refine bW aC 1 [(2, (aD true))] ?_
  refine bG ?_
  obtain rfl := oI h0
  exact aF (Q_r hO)
 refine aX aC 3 [0] [(9, (eL aK f0)), (10, (eI (lN f0))), (11, (eI (0 : Int)))] ?_
 refine bX 0 ?_
 refine eD [(3, (eI (-2 : Int))), (9, (eL aK f0)), (10, (eI (lN f0))), (11, (eI (0 : Int)))] ?_
 refine eE (fun T H => ∃ sN : Int, ∃ t9 : (List aB), ∃ t10 : Int, ∃ t11 : Int, Has T [(3, (eI sN)), (9, (eL aK t9)), (10, (eI t10)), (11, (eI t11))] ∧ aM ⟨H0, [], []⟩ H [] ∧ BN sN t9 t10 t11 = some r) ?_ ⟨(-2 : Int), f0, (lN f0), (0 : Int), .eq (by kernel_rfl), hO, h0⟩
 clear hO h0
 rintro T H ⟨sN, t9, t10, t11, hT, hO, h0⟩
 refine bF hT ?_
 clear hT
 unfold BN at h0
 obtain ⟨rr0, hl0, h0⟩ := aW h0
 refine dK (by kernel_rfl) (fun (s : Int × Int) T H => Has T [(3, (eI s.1)), (9, (eL aK t9)), (10, (eI t10)), (11, (eI s.2))] ∧ aM ⟨H0, [], []⟩ H []) hl0 ⟨.eq (by kernel_rfl), hO⟩ ?_
 clear hO
 rintro k0 s out1 T H ⟨hT, hO⟩ h1 ho0
 obtain ⟨sN, t11⟩ := s
 replace h1 : nJ t9 t10 sN t11 = some out1 := h1
 try dsimp only at hT
 refine bF hT ?_
 clear hT
 unfold nJ at h1
 refine aX aC 1 [] [(12, (aD (decide (t11 < t10))))] ?_
 refine aO ?_
 refine bK h1 (fun h1 => ?_) (fun h1 => ?_)
 ·refine bN ?_
  refine bD [(3, (eI sN)), (9, (eL aK t9)), (10, (eI t10)), (11, (eI t11))] ?_
  refine aO ?_
  refine bX 1 ?_
  refine aO ?_
  refine aS aC 4 ?_
  obtain ⟨c3, h1⟩ := aZ h1
  refine sG 2 [0 ≤ t11 ∧ t11 < (lN t9)] ⟨c3, trivial⟩ ?_
  refine kY 2 (aK (aB.mk 0 0)) (by kernel_rfl) (by kernel_rfl) hO ?_
  intro lo4 H hO
  refine gY 0 lo4 2 0 (aK (aB.mk 0 0)) (aK (gD t9 t11)) [(aK (aB.mk 0 0))] [(lo4, 2, [(aK (gD t9 t11))])] hO rfl (by kernel_rfl) ?_
  intro H hO
  refine dG ?_
  refine bP [] [(5, (.lp lo4 0 0))] ?_
  refine aO ?_
  refine aO ?_
  refine aS aC 20 ?_
  refine bI 1 ?_
  refine jJ 0 lo4 2 0 (aK (gD t9 t11)) (eI ((gD t9 t11).At)) [(aK (gD t9 t11))] hO rfl ?_
  refine bI 6 ?_
  refine rR [(19, false)] 0 lo4 2 0 (aK (gD t9 t11)) (eI ((gD t9 t11).At)) [(aK (gD t9 t11))] (by kernel_rfl) (by kernel_rfl) hO (by kernel_rfl) (!(decide (((gD t9 t11).At) ≤ sN))) (by kernel_rfl) (fun hb5 => rfl) ?_
  refine bI 11 ?_
  refine rR [(24, false)] 0 lo4 2 0 (aK (gD t9 t11)) (eI ((gD t9 t11).Net)) [(aK (gD t9 t11))] (by kernel_rfl) (by kernel_rfl) hO (by kernel_rfl) (!((decide (((gD t9 t11).At) ≤ sN)) || (decide ((1125899906842624 : Int) ≤ ((gD t9 t11).At))))) (by kernel_rfl) (fun hb6 => rfl) ?_
  refine bI 16 ?_
  refine rR [(29, false)] 0 lo4 2 0 (aK (gD t9 t11)) (eI ((gD t9 t11).Net)) [(aK (gD t9 t11))] (by kernel_rfl) (by kernel_rfl) hO (by kernel_rfl) (!(((decide (((gD t9 t11).At) ≤ sN)) || (decide ((1125899906842624 : Int) ≤ ((gD t9 t11).At)))) || (decide (((gD t9 t11).Net) = (0 : Int))))) (by kernel_rfl) (fun hb7 => rfl) ?_
  obtain ⟨x8, hx9, h1⟩ := aW h1
  refine nB [(29, false)] 58 [(eI ((gD t9 t11).Net))] (aD x8) (!(((decide (((gD t9 t11).At) ≤ sN)) || (decide ((1125899906842624 : Int) ≤ ((gD t9 t11).At)))) || (decide (((gD t9 t11).Net) = (0 : Int))))) (by kernel_rfl) (by kernel_rfl) (by kernel_rfl) (fun hb10 => (aAg ((gD t9 t11).Net) _ (jG hx9 hb10))) hO ?_
  intro H hO
  refine bA ?_
  refine bP [3] [(34, (aD ((((decide (((gD t9 t11).At) ≤ sN)) || (decide ((1125899906842624 : Int) ≤ ((gD t9 t11).At)))) || (decide (((gD t9 t11).Net) = (0 : Int)))) || (!x8))))] ?_
  refine bK h1 (fun h1 => ?_) (fun h1 => ?_)
  ·refine aO ?_
   refine aS aC 1 ?_
   refine bA ?_
   refine dP [(2, (aD false))] ?_
   replace hO := hO.pick (L' := []) [] (by decide) (by kernel_rfl)
   refine aF (aG (?_))
   refine bG ?_
   obtain rfl := oI h1
   obtain rfl : _ = rr0 := ho0
   replace h0 : some false = some r := h0
   obtain rfl := oI h0
   exact aF (aT (bC (aT (aT (bC (aT (Q_r hO)))))))
  refine bN ?_
  refine bD [(5, (.lp lo4 0 0)), (9, (eL aK t9)), (10, (eI t10)), (11, (eI t11))] ?_
  refine aS aC 3 ?_
  refine bI 1 ?_
  refine jJ 0 lo4 2 0 (aK (gD t9 t11)) (eI ((gD t9 t11).At)) [(aK (gD t9 t11))] hO rfl ?_
  refine bA ?_
  refine dP [(3, (eI ((gD t9 t11).At))), (9, (eL aK t9)), (10, (eI t10)), (11, (eI t11))] ?_
  replace hO := hO.pick (L' := []) [] (by decide) (by kernel_rfl)
  refine aF (aV (aG (?_)))
  refine aS aC 2 ?_
  refine bA ?_
  exact aF (aG (⟨rfl, _, (oI h1).symm, .eq (by kernel_rfl), hO⟩))
 refine gJ 0 ?_
 obtain rfl := oI h1
 obtain rfl : _ = rr0 := ho0
 replace h0 : yM  = some r := h0
 exact aF (aY (aY (bV (aG (⟨rfl, .eq (by kernel_rfl), hO, h0⟩)))))

theorem xE (l0 : (List aE)) (r : Bool) (h0 : oY l0 = some r) : cZ Try.prog 27 [(eL aH l0)] (aD r) := by
 intro H0
 refine cY Try.func27 ?_
 have hO := aM.start H0
 unfold oY at h0
 refine aX aC 1 [] [] ?_
 refine aO ?_
 refine aS aC 3 ?_
 refine bI 1 ?_
 obtain ⟨x1, hx2, h0⟩ := aW h0
 refine cX (MJ l0 36 [] [] (fun y0 => nQ y0) (fun y0 r h => xG y0 r h) _ hx2) hO ?_
 intro H hO
 refine bA ?_
 refine bD [(2, (aD x1))] ?_
 refine bG ?_
 obtain rfl := oI h0
 exact aF (Q_r hO)

theorem XY (f0 : (List aB)) (r : Int) (h0 : wH f0 = some r) : cZ Try.prog 50 [(eL aK f0)] (eI r) := by
 intro H0
 refine cY Try.func50 ?_
 have hO := aM.start H0
 unfold wH at h0
 refine aX aC 1 [] [] ?_
 refine aO ?_
 refine aO ?_
 refine aS aC 8 ?_
 refine bI 1 ?_
 obtain ⟨x1, hx2, h0⟩ := aW h0
 refine cX (xG f0 _ hx2) hO ?_
 intro H hO
 refine bA ?_
 refine bP [] [(14, (aD ((!x1) || (decide ((lN f0) = (0 : Int))))))] ?_
 refine bK h0 (fun h0 => ?_) (fun h0 => ?_)
 ·refine bW aC 1 [(2, (eI (0 : Int)))] ?_
  refine bG ?_
  obtain rfl := oI h0
  exact aF (aT (Q_r hO))
 refine bN ?_
 refine bD [(0, (eL aK f0))] ?_
 refine aX aC 2 [] [(3, (eI (0 : Int))), (4, (eI (0 : Int)))] ?_
 refine eR (fun T H => ∃ v3 : Int, ∃ iW : Int, Has T [(0, (eL aK f0)), (3, (eI v3)), (4, (eI iW))] ∧ aM ⟨H0, [], []⟩ H [] ∧ rQ f0 v3 iW = some r) ?_ ?_
 ·clear hO h0
  rintro T H ⟨v3, iW, hT, hO, h0⟩
  refine bF hT ?_
  clear hT
  unfold rQ at h0
  refine eR (fun T H => ∃ iW : Int, Has T [(4, (eI iW))] ∧ aM ⟨H0, [], []⟩ H [] ∧ uT iW = some r) ?_ ?_
  ·clear hO h0
   rintro T H ⟨iW, hT, hO, h0⟩
   refine bF hT ?_
   clear hT
   unfold uT at h0
   refine bW aC 2 [(2, (eI iW))] ?_
   refine bG ?_
   obtain rfl := oI h0
   exact aF (Q_r hO)
  refine aX aC 3 [0] [(24, (eL aK f0)), (25, (eI (lN f0))), (26, (eI (0 : Int)))] ?_
  refine bX 0 ?_
  refine eD [(3, (eI v3)), (4, (eI iW)), (24, (eL aK f0)), (25, (eI (lN f0))), (26, (eI (0 : Int)))] ?_
  refine eE (fun T H => ∃ v3 : Int, ∃ iW : Int, ∃ t24 : (List aB), ∃ t25 : Int, ∃ t26 : Int, Has T [(3, (eI v3)), (4, (eI iW)), (24, (eL aK t24)), (25, (eI t25)), (26, (eI t26))] ∧ aM ⟨H0, [], []⟩ H [] ∧ uJ v3 iW t24 t25 t26 = some r) ?_ ⟨v3, iW, f0, (lN f0), (0 : Int), .eq (by kernel_rfl), hO, h0⟩
  clear hO h0
  rintro T H ⟨v3, iW, t24, t25, t26, hT, hO, h0⟩
  refine bF hT ?_
  clear hT
  unfold uJ at h0
  obtain ⟨rr0, hl0, h0⟩ := aW h0
  refine dK (by kernel_rfl) (fun (s : Int × Int × Int) T H => Has T [(3, (eI s.1)), (4, (eI s.2.1)), (24, (eL aK t24)), (25, (eI t25)), (26, (eI s.2.2))] ∧ aM ⟨H0, [], []⟩ H []) hl0 ⟨.eq (by kernel_rfl), hO⟩ ?_
  clear hO
  rintro k0 s out1 T H ⟨hT, hO⟩ h1 ho0
  obtain ⟨v3, iW, t26⟩ := s
  replace h1 : oB t24 t25 v3 iW t26 = some out1 := h1
  try dsimp only at hT
  refine bF hT ?_
  clear hT
  unfold oB at h1
  refine aX aC 1 [] [(27, (aD (decide (t26 < t25))))] ?_
  refine aO ?_
  refine bK h1 (fun h1 => ?_) (fun h1 => ?_)
  ·refine bN ?_
   refine bD [(3, (eI v3)), (4, (eI iW)), (24, (eL aK t24)), (25, (eI t25)), (26, (eI t26))] ?_
   refine aO ?_
   refine bX 1 ?_
   refine aO ?_
   refine aS aC 4 ?_
   obtain ⟨c6, h1⟩ := aZ h1
   refine sG 2 [0 ≤ t26 ∧ t26 < (lN t24)] ⟨c6, trivial⟩ ?_
   refine kY 2 (aK (aB.mk 0 0)) (by kernel_rfl) (by kernel_rfl) hO ?_
   intro lo7 H hO
   refine gY 0 lo7 2 0 (aK (aB.mk 0 0)) (aK (gD t24 t26)) [(aK (aB.mk 0 0))] [(lo7, 2, [(aK (gD t24 t26))])] hO rfl (by kernel_rfl) ?_
   intro H hO
   refine dG ?_
   refine bP [] [(6, (.lp lo7 0 0))] ?_
   refine aO ?_
   refine aS aC 5 ?_
   refine bI 2 ?_
   refine jJ 0 lo7 2 0 (aK (gD t24 t26)) (eI ((gD t24 t26).Net)) [(aK (gD t24 t26))] hO rfl ?_
   refine bA ?_
   replace hO := hO.pick (L' := []) [] (by decide) (by kernel_rfl)
   refine bP [3, 6] [(3, (eI (wR (v3 + ((gD t24 t26).Net)))))] ?_
   refine aS aC 4 ?_
   refine bA ?_
   refine dP [(3, (eI (wR (v3 + ((gD t24 t26).Net))))), (4, (eI (if (wR (v3 + ((gD t24 t26).Net))) < iW then (wR (v3 + ((gD t24 t26).Net))) else iW))), (24, (eL aK t24)), (25, (eI t25)), (26, (eI t26))] ?_
   refine aF (aV (aG (?_)))
   refine aS aC 2 ?_
   refine bA ?_
   exact aF (aG (⟨rfl, _, (oI h1).symm, .eq (by kernel_rfl), hO⟩))
  refine gJ 0 ?_
  obtain rfl := oI h1
  obtain rfl : _ = rr0 := ho0
  replace h0 : uT iW = some r := h0
  exact aF (aY (aY (bV (aG (⟨rfl, _, .eq (by kernel_rfl), hO, h0⟩)))))
 refine aO ?_
 refine aS aC 5 ?_
 obtain ⟨c8, h0⟩ := aZ h0
 refine pZ [0 ≤ (0 : Int) ∧ (0 : Int) < (lN f0)] ⟨c8, trivial⟩ ?_
 refine bP [] [(19, (aD (decide (((gD f0 (0 : Int)).At) = (-1 : Int)))))] ?_
 refine bK h0 (fun h0 => ?_) (fun h0 => ?_)
 ·refine aS aC 5 ?_
  obtain ⟨c10, h0⟩ := aZ h0
  refine pZ [0 ≤ (0 : Int) ∧ (0 : Int) < (lN f0)] ⟨c10, trivial⟩ ?_
  exact aF (aG (⟨rfl, _, _, .eq (by kernel_rfl), hO, h0⟩))
 refine bN ?_
 exact aF (aG (⟨rfl, _, _, .eq (by kernel_rfl), hO, h0⟩))

theorem RS (f0 : (List aB)) (r : Bool) (h0 : tI f0 = some r) : cZ Try.prog 49 [(eL aK f0)] (aD r) := by
 intro H0
 refine cY Try.func49 ?_
 have hO := aM.start H0
 unfold tI at h0
 refine aX aC 1 [] [] ?_
 refine aO ?_
 refine aS aC 8 ?_
 refine bI 1 ?_
 obtain ⟨x1, hx2, h0⟩ := aW h0
 refine cX (xG f0 _ hx2) hO ?_
 intro H hO
 refine bI 4 ?_
 obtain ⟨x4, hx5, h0⟩ := aW h0
 refine nB [(5, true)] 50 [(eL aK f0)] (eI x4) x1 (by kernel_rfl) (by kernel_rfl) (by kernel_rfl) (fun hb6 => (XY f0 _ (jG hx5 hb6))) hO ?_
 intro H hO
 refine bA ?_
 refine bD [(2, (aD (x1 && (decide ((0 : Int) ≤ x4)))))] ?_
 refine bG ?_
 obtain rfl := oI h0
 exact aF (Q_r hO)

theorem zU (l0 : (List aE)) (r : Bool) (h0 : pK l0 = some r) : cZ Try.prog 28 [(eL aH l0)] (aD r) := by
 intro H0
 refine cY Try.func28 ?_
 have hO := aM.start H0
 unfold pK at h0
 refine aX aC 1 [] [] ?_
 refine aO ?_
 refine aS aC 3 ?_
 refine bI 1 ?_
 obtain ⟨x1, hx2, h0⟩ := aW h0
 refine cX (MJ l0 49 [] [] (fun y0 => tI y0) (fun y0 r h => RS y0 r h) _ hx2) hO ?_
 intro H hO
 refine bA ?_
 refine bD [(2, (aD x1))] ?_
 refine bG ?_
 obtain rfl := oI h0
 exact aF (Q_r hO)

theorem GV (w0 : bY) (l1 : (List aE)) (t2 : Int) (r : Int) (h0 : qM w0 l1 t2 = some r) : cZ Try.prog 12 [(cP w0), (eL aH l1), (eI t2)] (eI r) := by
 intro H0
 refine cY Try.func12 ?_
 have hO := aM.start H0
 unfold qM at h0
 refine aO ?_
 refine aS aC 2 ?_
 refine fT 3 (cP w0) (by kernel_rfl) (by kernel_rfl) ?_
 refine bA ?_
 refine bP [0] [(3, (.rp (cP w0)))] ?_
 refine aO ?_
 refine bX 0 ?_
 refine aO ?_
 refine aS aC 9 ?_
 refine bI 1 ?_
 obtain ⟨x1, hx2, h0⟩ := aW h0
 refine cX (GY w0 _ hx2) hO ?_
 intro H hO
 refine bI 5 ?_
 obtain ⟨x4, hx5, h0⟩ := aW h0
 refine nB [(11, false)] 27 [(eL aH l1)] (aD x4) (!(!decide (x1 = (0 : Int)))) (by kernel_rfl) (by kernel_rfl) (by kernel_rfl) (fun hb6 => (xE l1 _ (jG hx5 hb6))) hO ?_
 intro H hO
 refine bA ?_
 refine bP [3] [(7, (aD ((!decide (x1 = (0 : Int))) || (!x4))))] ?_
 refine bK h0 (fun h0 => ?_) (fun h0 => ?_)
 ·refine bW aC 1 [(6, (eI (2 : Int)))] ?_
  refine bG ?_
  obtain rfl := oI h0
  exact aF (bC (aT (Q_r hO)))
 refine aO ?_
 refine aS aC 4 ?_
 refine bI 1 ?_
 obtain ⟨x8, hx9, h0⟩ := aW h0
 refine cX (zU l1 _ hx9) hO ?_
 intro H hO
 refine bA ?_
 refine bD [(2, (eI t2)), (16, (aD (!x8)))] ?_
 refine bK h0 (fun h0 => ?_) (fun h0 => ?_)
 ·refine bW aC 1 [(6, (eI (20 : Int)))] ?_
  refine bG ?_
  obtain rfl := oI h0
  exact aF (bC (aT (Q_r hO)))
 refine bW aC 7 [(20, (aD ((decide (t2 < (0 : Int))) || (decide ((1125899906842624 : Int) < t2)))))] ?_
 refine bK h0 (fun h0 => ?_) (fun h0 => ?_)
 ·refine bW aC 1 [(6, (eI (13 : Int)))] ?_
  refine bG ?_
  obtain rfl := oI h0
  exact aF (bC (aT (Q_r hO)))
 refine bN ?_
 refine dP [] ?_
 refine aF (aV (aG (?_)))
 refine bW aC 1 [(6, (eI (0 : Int)))] ?_
 refine bG ?_
 obtain rfl := oI h0
 exact aF (Q_r hO)

theorem TO (mV : Int) (hop1 : Int) (r : Bool) (h0 : zP mV hop1 = some r) : cZ Try.prog 29 [(eI mV), (eI hop1)] (aD r) := by
 intro H0
 refine cY Try.func29 ?_
 have hO := aM.start H0
 unfold zP at h0
 refine aX aC 1 [] [] ?_
 refine bW aC 15 [(4, (aD ((((decide ((1 : Int) ≤ mV)) && (decide (mV ≤ (1099511627776 : Int)))) && (decide ((1 : Int) ≤ hop1))) && (decide (hop1 ≤ (1099511627776 : Int))))))] ?_
 refine bG ?_
 obtain rfl := oI h0
 exact aF (Q_r hO)

theorem HO (t0 : Int) (r : Bool) (h0 : uB t0 = some r) : cZ Try.prog 30 [(eI t0)] (aD r) := by
 intro H0
 refine cY Try.func30 ?_
 have hO := aM.start H0
 unfold uB at h0
 refine aX aC 1 [] [] ?_
 refine bW aC 7 [(2, (aD ((decide ((0 : Int) ≤ t0)) && (decide (t0 ≤ (1125899906842624 : Int))))))] ?_
 refine bG ?_
 obtain rfl := oI h0
 exact aF (Q_r hO)

theorem aAj (a0 : Int) (b1 : Int) (r : (Int × Int × Int)) (h0 : xX a0 b1 = some r) : cZ Try.prog 51 [(eI a0), (eI b1)] (.tup [(eI r.1), (eI r.2.1), (eI r.2.2)]) := by
 intro H0
 refine cY Try.func51 ?_
 have hO := aM.start H0
 unfold xX at h0
 refine aX aC 3 [] [] ?_
 refine aO ?_
 refine aX aC 2 [] [(10, (aD (decide (b1 < (1 : Int)))))] ?_
 refine bK h0 (fun h0 => ?_) (fun h0 => ?_)
 ·refine bW aC 3 [(4, (eI (0 : Int))), (5, (eI (0 : Int))), (6, (eI (2 : Int)))] ?_
  refine bG ?_
  obtain rfl := oI h0
  exact aF (aT (Q_r hO))
 refine bN ?_
 refine bD [(0, (eI a0)), (1, (eI b1))] ?_
 refine aO ?_
 refine fS (fR []) aC 8 ?_
 obtain ⟨c2, h0⟩ := aZ h0
 obtain ⟨c3, h0⟩ := aZ h0
 refine QJ (Ds := [b1 ≠ 0, b1 ≠ 0]) (by kernel_rfl) ⟨c2, c3, trivial⟩ ?_
 refine bP [0] [(7, (eI (wR (Int.tdiv a0 b1)))), (8, (eI (Int.tmod a0 b1)))] ?_
 refine eR (fun T H => ∃ q7 : Int, ∃ r8 : Int, Has T [(7, (eI q7)), (8, (eI r8))] ∧ aM ⟨H0, [], []⟩ H [] ∧ wC q7 r8 = some r) ?_ ?_
 ·clear hO h0
  rintro T H ⟨q7, r8, hT, hO, h0⟩
  refine bF hT ?_
  clear hT
  unfold wC at h0
  refine bW aC 5 [(4, (eI q7)), (5, (eI r8)), (6, (eI (0 : Int)))] ?_
  refine bG ?_
  obtain rfl := oI h0
  exact aF (Q_r hO)
 refine aX aC 2 [] [(18, (aD (decide ((Int.tmod a0 b1) < (0 : Int)))))] ?_
 refine bK h0 (fun h0 => ?_) (fun h0 => ?_)
 ·refine aS aC 7 ?_
  refine bA ?_
  exact aF (aG (⟨rfl, _, _, .eq (by kernel_rfl), hO, h0⟩))
 refine bN ?_
 exact aF (aG (⟨rfl, _, _, .eq (by kernel_rfl), hO, h0⟩))

theorem DZ (hop0 : Int) (n1 : Int) (r : Int) (h0 : qZ hop0 n1 = some r) : cZ Try.prog 31 [(eI hop0), (eI n1)] (eI r) := by
 intro H0
 refine cY Try.func31 ?_
 have hO := aM.start H0
 unfold qZ at h0
 refine aX aC 1 [] [] ?_
 refine aO ?_
 refine aX aC 2 [] [(9, (aD (decide (n1 < (0 : Int)))))] ?_
 refine bK h0 (fun h0 => ?_) (fun h0 => ?_)
 ·refine bW aC 1 [(4, (eI (0 : Int)))] ?_
  refine bG ?_
  obtain rfl := oI h0
  exact aF (aT (Q_r hO))
 refine bN ?_
 refine bD [(0, (eI hop0)), (1, (eI n1))] ?_
 refine aO ?_
 refine aS aC 10 ?_
 refine bI 2 ?_
 obtain ⟨x2, hx3, h0⟩ := aW h0
 refine cX (aAj n1 hop0 _ hx3) hO ?_
 intro H hO
 refine bA ?_
 refine bP [1] [(5, (eI x2.1))] ?_
 refine bW aC 5 [(4, (eI (wR ((wR (x2.1 + (1 : Int))) * hop0))))] ?_
 refine bG ?_
 obtain rfl := oI h0
 exact aF (Q_r hO)

theorem aBP (mV : Int) (hop1 : Int) (t2 : Int) (r : (Int × Int)) (h0 : AD mV hop1 t2 = some r) : cZ Try.prog 13 [(eI mV), (eI hop1), (eI t2)] (.tup [(eI r.1), (eI r.2)]) := by
 intro H0
 refine cY Try.func13 ?_
 have hO := aM.start H0
 unfold AD at h0
 refine aX aC 2 [] [] ?_
 refine aO ?_
 refine bX 0 ?_
 refine aO ?_
 refine aS aC 5 ?_
 refine bI 2 ?_
 obtain ⟨x1, hx2, h0⟩ := aW h0
 refine cX (TO mV hop1 _ hx2) hO ?_
 intro H hO
 refine bA ?_
 refine bP [] [(8, (aD (!x1)))] ?_
 refine bK h0 (fun h0 => ?_) (fun h0 => ?_)
 ·refine bW aC 2 [(6, (eI (0 : Int))), (7, (eI (2 : Int)))] ?_
  refine bG ?_
  obtain rfl := oI h0
  exact aF (bC (aT (Q_r hO)))
 refine aO ?_
 refine aS aC 4 ?_
 refine bI 1 ?_
 obtain ⟨x5, hx6, h0⟩ := aW h0
 refine cX (HO t2 _ hx6) hO ?_
 intro H hO
 refine bA ?_
 refine bP [8] [(13, (aD (!x5)))] ?_
 refine bK h0 (fun h0 => ?_) (fun h0 => ?_)
 ·refine bW aC 2 [(6, (eI (0 : Int))), (7, (eI (13 : Int)))] ?_
  refine bG ?_
  obtain rfl := oI h0
  exact aF (bC (aT (Q_r hO)))
 refine aX aC 3 [13] [(17, (aD (decide (t2 = (1125899906842624 : Int)))))] ?_
 refine bK h0 (fun h0 => ?_) (fun h0 => ?_)
 ·refine bW aC 2 [(6, (eI (1125899906842624 : Int))), (7, (eI (0 : Int)))] ?_
  refine bG ?_
  obtain rfl := oI h0
  exact aF (bC (aT (Q_r hO)))
 refine bN ?_
 refine dP [(0, (eI mV)), (1, (eI hop1)), (2, (eI t2))] ?_
 refine aF (aV (aG (?_)))
 refine aO ?_
 refine aS aC 8 ?_
 refine bI 4 ?_
 obtain ⟨x10, hx11, h0⟩ := aW h0
 refine cX (DZ hop1 (wR (t2 - mV)) _ hx11) hO ?_
 intro H hO
 refine bA ?_
 refine bD [(6, (eI (if (1125899906842624 : Int) < x10 then (1125899906842624 : Int) else x10))), (7, (eI (0 : Int)))] ?_
 refine bG ?_
 obtain rfl := oI h0
 exact aF (Q_r hO)

theorem KG (l0 : (List aE)) (n1 : Int) (r : Int) (h0 : tF l0 n1 = some r) : cZ Try.prog 32 [(eL aH l0), (eI n1)] (eI r) := by
 intro H0
 refine cY Try.func32 ?_
 have hO := aM.start H0
 unfold tF at h0
 refine aX aC 1 [] [] ?_
 refine aO ?_
 refine bX 0 ?_
 refine aO ?_
 refine aS aC 12 ?_
 refine bI 1 ?_
 obtain ⟨x1, hx2, h0⟩ := aW h0
 refine cX (xE l0 _ hx2) hO ?_
 intro H hO
 refine bA ?_
 refine bP [1] [(5, (aD (((!x1) || (decide (n1 < (1 : Int)))) || (decide ((64 : Int) < n1)))))] ?_
 refine bK h0 (fun h0 => ?_) (fun h0 => ?_)
 ·refine bW aC 1 [(4, (eI (2 : Int)))] ?_
  refine bG ?_
  obtain rfl := oI h0
  exact aF (bC (aT (Q_r hO)))
 refine aO ?_
 refine aS aC 4 ?_
 refine bI 1 ?_
 obtain ⟨x5, hx6, h0⟩ := aW h0
 refine cX (zU l0 _ hx6) hO ?_
 intro H hO
 refine bA ?_
 refine bD [(17, (aD (!x5)))] ?_
 refine bK h0 (fun h0 => ?_) (fun h0 => ?_)
 ·refine bW aC 1 [(4, (eI (20 : Int)))] ?_
  refine bG ?_
  obtain rfl := oI h0
  exact aF (bC (aT (Q_r hO)))
 refine bN ?_
 refine dP [] ?_
 refine aF (aV (aG (?_)))
 refine bW aC 1 [(4, (eI (0 : Int)))] ?_
 refine bG ?_
 obtain rfl := oI h0
 exact aF (Q_r hO)

theorem HF (l0 : (List aE)) (r : (List aE)) (h0 : qN l0 = some r) : cZ Try.prog 52 [(eL aH l0)] (.fn (.func 70) [] [(.rp (eL aH r))]) := by
 intro H0
 refine cY Try.func52 ?_
 have hO := aM.start H0
 unfold qN at h0
 refine aO ?_
 refine aS aC 2 ?_
 refine fT 1 (eL aH l0) (by kernel_rfl) (by kernel_rfl) ?_
 refine bA ?_
 refine bD [(1, (.rp (eL aH l0)))] ?_
 refine bW aC 2 [(2, (.fn (.func 70) [] [(.rp (eL aH l0))]))] ?_
 refine bG ?_
 obtain rfl := oI h0
 exact aF (kA (x := (.fn (.func 70) [] [(.rp (eL aH l0))])) (by kernel_rfl) (aR.refl _) ⟨rfl, hO.out⟩)

theorem CB {σ : Type} (I : σ → Gs → Prop) (yield0_b : Nat) (cG : σ → aE → Option (σ × Bool)) (yield0_h : ∀ st a0 st2 r, cG st a0 = some (st2, r) → BQ Try.prog (yv yield0_b) I st [(aH a0)] st2 (aD r)) (t1 : (List aE)) (sg0 : σ) (r : σ) (h0 : mX cG t1 sg0 = some r) : xN Try.prog 70 I sg0 [(yv yield0_b), (.rp (eL aH t1))] r (.tup []) := by
 intro H0 G0 hI hg
 refine cY Try.func70 ?_
 obtain ⟨G, hO, hI⟩ : ∃ G, aM ⟨H0, List.map (fun p : Nat × dL => p.1) G0, G⟩ H0 [] ∧ I sg0 G := ⟨G0, aM.DV hg, hI⟩
 clear hg
 unfold mX at h0
 refine aX aC 3 [1] [(5, (eL aH t1)), (6, (eI (lN t1))), (7, (eI (0 : Int)))] ?_
 refine bX 0 ?_
 refine eD [(0, (yv yield0_b)), (5, (eL aH t1)), (6, (eI (lN t1))), (7, (eI (0 : Int)))] ?_
 refine eE (fun T H => ∃ sg : σ, ∃ t5 : (List aE), ∃ t6 : Int, ∃ t7 : Int, ∃ G : Gs, Has T [(0, (yv yield0_b)), (5, (eL aH t5)), (6, (eI t6)), (7, (eI t7))] ∧ aM ⟨H0, List.map (fun p : Nat × dL => p.1) G0, G⟩ H [] ∧ I sg G ∧ rI cG sg t5 t6 t7 = some r) ?_ ⟨sg0, t1, (lN t1), (0 : Int), G, .eq (by kernel_rfl), hO, hI, h0⟩
 clear hO hI h0
 rintro T H ⟨sg, t5, t6, t7, G, hT, hO, hI, h0⟩
 refine bF hT ?_
 clear hT
 unfold rI at h0
 obtain ⟨rr0, hl0, h0⟩ := aW h0
 refine dK (by kernel_rfl) (fun (s : σ × Int) T H => ∃ G : Gs, Has T [(0, (yv yield0_b)), (5, (eL aH t5)), (6, (eI t6)), (7, (eI s.2))] ∧ aM ⟨H0, List.map (fun p : Nat × dL => p.1) G0, G⟩ H [] ∧ I s.1 G) hl0 ⟨G, .eq (by kernel_rfl), hO, hI⟩ ?_
 clear hO hI
 rintro k0 s out1 T H ⟨G, hT, hO, hI⟩ h1 ho0
 obtain ⟨sg, t7⟩ := s
 replace h1 : lA cG t5 t6 sg t7 = some out1 := h1
 try dsimp only at hT
 refine bF hT ?_
 clear hT
 unfold lA at h1
 refine aX aC 1 [] [(8, (aD (decide (t7 < t6))))] ?_
 refine aO ?_
 refine bK h1 (fun h1 => ?_) (fun h1 => ?_)
 ·refine bN ?_
  refine bD [(0, (yv yield0_b)), (5, (eL aH t5)), (6, (eI t6)), (7, (eI t7))] ?_
  refine aO ?_
  refine bX 1 ?_
  refine aO ?_
  refine aS aC 4 ?_
  obtain ⟨c2, h1⟩ := aZ h1
  refine sG 2 [0 ≤ t7 ∧ t7 < (lN t5)] ⟨c2, trivial⟩ ?_
  refine oO 3 (.agg [(.sl true 0 (fun _ => .bad)), (eI 0), (eI 0)]) (aH (aE.mk ([]) 0 0)) (by kernel_rfl) (by kernel_rfl) (by kernel_rfl) (yF (xs := [(.sl true 0 (fun _ => .bad)), (eI 0), (eI 0)]) (ys := [(eL aJ ([])), (eI 0), (eI 0)]) ⟨eN, aR.refl _, aR.refl _, trivial⟩) (by kernel_rfl) (by kernel_rfl) hO ?_
  intro lo3 H hO
  refine gY 0 lo3 3 0 (aH (aE.mk ([]) 0 0)) (aH (gD t5 t7)) [(aH (aE.mk ([]) 0 0))] [(lo3, 3, [(aH (gD t5 t7))])] hO rfl (by kernel_rfl) ?_
  intro H hO
  refine dG ?_
  refine bP [] [(4, (.lp lo3 0 0))] ?_
  refine aO ?_
  refine aS aC 14 ?_
  refine bI 1 ?_
  refine jJ 0 lo3 3 0 (aH (gD t5 t7)) (eI ((gD t5 t7).Net)) [(aH (gD t5 t7))] hO rfl ?_
  refine bI 5 ?_
  refine rR [(14, true)] 0 lo3 3 0 (aH (gD t5 t7)) (eI ((gD t5 t7).At)) [(aH (gD t5 t7))] (by kernel_rfl) (by kernel_rfl) hO (by kernel_rfl) (decide ((0 : Int) < ((gD t5 t7).Net))) (by kernel_rfl) (fun hb4 => rfl) ?_
  refine bI 10 ?_
  refine rR [(19, true)] 0 lo3 3 0 (aH (gD t5 t7)) (aH (gD t5 t7)) [(aH (gD t5 t7))] (by kernel_rfl) (by kernel_rfl) hO (by kernel_rfl) ((decide ((0 : Int) < ((gD t5 t7).Net))) && (decide ((-1 : Int) < ((gD t5 t7).At)))) (by kernel_rfl) (fun hb5 => rfl) ?_
  obtain ⟨⟨x8, x9⟩, hx7, h1⟩ := aW h1
  replace hx7 := aAN hx7
  refine YN (I := I) [(19, true)] ((decide ((0 : Int) < ((gD t5 t7).Net))) && (decide ((-1 : Int) < ((gD t5 t7).At)))) (yv yield0_b) [(aH (gD t5 t7))] (aD x9) ⟨fun hb => yield0_h _ (gD t5 t7) x8 x9 (hx7.1 hb), hx7.2⟩ hO hI ?_
  intro G H hO hI
  refine bA ?_
  replace hO := hO.pick (L' := []) [] (by decide) (by kernel_rfl)
  refine bP [4] [(24, (aD (((decide ((0 : Int) < ((gD t5 t7).Net))) && (decide ((-1 : Int) < ((gD t5 t7).At)))) && (!x9))))] ?_
  refine bK h1 (fun h1 => ?_) (fun h1 => ?_)
  ·refine bG ?_
   obtain rfl := oI h1
   obtain rfl : _ = rr0 := ho0
   replace h0 : some x8 = some r := h0
   obtain rfl := oI h0
   exact aF (bC (aT (aT (bC (kA (x := (.tup [])) (by kernel_rfl) (aR.refl _) ⟨rfl, G, hI, hO.zE⟩)))))
  refine bN ?_
  refine dP [(0, (yv yield0_b)), (5, (eL aH t5)), (6, (eI t6)), (7, (eI t7))] ?_
  refine aF (aV (aG (?_)))
  refine aS aC 2 ?_
  refine bA ?_
  exact aF (aG (⟨rfl, _, (oI h1).symm, _, .eq (by kernel_rfl), hO, hI⟩))
 refine gJ 0 ?_
 obtain rfl := oI h1
 obtain rfl : _ = rr0 := ho0
 replace h0 : some sg = some r := h0
 obtain rfl := oI h0
 exact aF (aY (aY (bV (yU (x := (.tup [])) (by kernel_rfl) (aR.refl _) ⟨rfl, G, hI, hO.zE⟩))))

theorem LY (x0 : Int) (r : Int) (h0 : qE x0 = some r) : cZ Try.prog 84 [(cR .u64 x0)] (eI r) := by
 intro H0
 refine cY Try.func84 ?_
 have hO := aM.start H0
 unfold qE at h0
 refine aX aC 1 [] [(2, (eI (0 : Int)))] ?_
 refine eR (fun T H => ∃ x0 : Int, ∃ n2 : Int, Has T [(0, (cR .u64 x0)), (2, (eI n2))] ∧ aM ⟨H0, [], []⟩ H [] ∧ lZ x0 n2 = some r) ?_ ?_
 ·clear hO h0
  rintro T H ⟨x0, n2, hT, hO, h0⟩
  refine bF hT ?_
  clear hT
  unfold lZ at h0
  refine eR (fun T H => ∃ x0 : Int, ∃ n2 : Int, Has T [(0, (cR .u64 x0)), (2, (eI n2))] ∧ aM ⟨H0, [], []⟩ H [] ∧ mA x0 n2 = some r) ?_ ?_
  ·clear hO h0
   rintro T H ⟨x0, n2, hT, hO, h0⟩
   refine bF hT ?_
   clear hT
   unfold mA at h0
   refine eR (fun T H => ∃ x0 : Int, ∃ n2 : Int, Has T [(0, (cR .u64 x0)), (2, (eI n2))] ∧ aM ⟨H0, [], []⟩ H [] ∧ nD x0 n2 = some r) ?_ ?_
   ·clear hO h0
    rintro T H ⟨x0, n2, hT, hO, h0⟩
    refine bF hT ?_
    clear hT
    unfold nD at h0
    refine aO ?_
    refine aS aC 7 ?_
    obtain ⟨c1, h0⟩ := aZ h0
    refine pZ [0 ≤ (IntKind.u8.wrap x0) ∧ (IntKind.u8.wrap x0) < ((ByteArray.size (⟨#[0, 1, 2, 2, 3, 3, 3, 3, 4, 4, 4, 4, 4, 4, 4, 4, 5, 5, 5, 5, 5, 5, 5, 5, 5, 5, 5, 5, 5, 5, 5, 5, 6, 6, 6, 6, 6, 6, 6, 6, 6, 6, 6, 6, 6, 6, 6, 6, 6, 6, 6, 6, 6, 6, 6, 6, 6, 6, 6, 6, 6, 6, 6, 6, 7, 7, 7, 7, 7, 7, 7, 7, 7, 7, 7, 7, 7, 7, 7, 7, 7, 7, 7, 7, 7, 7, 7, 7, 7, 7, 7, 7, 7, 7, 7, 7, 7, 7, 7, 7, 7, 7, 7, 7, 7, 7, 7, 7, 7, 7, 7, 7, 7, 7, 7, 7, 7, 7, 7, 7, 7, 7, 7, 7, 7, 7, 7, 7, 8, 8, 8, 8, 8, 8, 8, 8, 8, 8, 8, 8, 8, 8, 8, 8, 8, 8, 8, 8, 8, 8, 8, 8, 8, 8, 8, 8, 8, 8, 8, 8, 8, 8, 8, 8, 8, 8, 8, 8, 8, 8, 8, 8, 8, 8, 8, 8, 8, 8, 8, 8, 8, 8, 8, 8, 8, 8, 8, 8, 8, 8, 8, 8, 8, 8, 8, 8, 8, 8, 8, 8, 8, 8, 8, 8, 8, 8, 8, 8, 8, 8, 8, 8, 8, 8, 8, 8, 8, 8, 8, 8, 8, 8, 8, 8, 8, 8, 8, 8, 8, 8, 8, 8, 8, 8, 8, 8, 8, 8, 8, 8, 8, 8, 8, 8, 8, 8, 8, 8, 8, 8, 8, 8, 8, 8, 8, 8]⟩ : ByteArray) : Nat) : Int)] ⟨c1, trivial⟩ ?_
    refine bD [(2, (eI (wR (n2 + (wR (bt (⟨#[0, 1, 2, 2, 3, 3, 3, 3, 4, 4, 4, 4, 4, 4, 4, 4, 5, 5, 5, 5, 5, 5, 5, 5, 5, 5, 5, 5, 5, 5, 5, 5, 6, 6, 6, 6, 6, 6, 6, 6, 6, 6, 6, 6, 6, 6, 6, 6, 6, 6, 6, 6, 6, 6, 6, 6, 6, 6, 6, 6, 6, 6, 6, 6, 7, 7, 7, 7, 7, 7, 7, 7, 7, 7, 7, 7, 7, 7, 7, 7, 7, 7, 7, 7, 7, 7, 7, 7, 7, 7, 7, 7, 7, 7, 7, 7, 7, 7, 7, 7, 7, 7, 7, 7, 7, 7, 7, 7, 7, 7, 7, 7, 7, 7, 7, 7, 7, 7, 7, 7, 7, 7, 7, 7, 7, 7, 7, 7, 8, 8, 8, 8, 8, 8, 8, 8, 8, 8, 8, 8, 8, 8, 8, 8, 8, 8, 8, 8, 8, 8, 8, 8, 8, 8, 8, 8, 8, 8, 8, 8, 8, 8, 8, 8, 8, 8, 8, 8, 8, 8, 8, 8, 8, 8, 8, 8, 8, 8, 8, 8, 8, 8, 8, 8, 8, 8, 8, 8, 8, 8, 8, 8, 8, 8, 8, 8, 8, 8, 8, 8, 8, 8, 8, 8, 8, 8, 8, 8, 8, 8, 8, 8, 8, 8, 8, 8, 8, 8, 8, 8, 8, 8, 8, 8, 8, 8, 8, 8, 8, 8, 8, 8, 8, 8, 8, 8, 8, 8, 8, 8, 8, 8, 8, 8, 8, 8, 8, 8, 8, 8, 8, 8, 8, 8, 8, 8]⟩ : ByteArray) (IntKind.u8.wrap x0)))))))] ?_
    refine bG ?_
    obtain rfl := oI h0
    exact aF (Q_r hO)
   refine aX aC 2 [] [(14, (aD (decide ((256 : Int) ≤ x0))))] ?_
   refine bK h0 (fun h0 => ?_) (fun h0 => ?_)
   ·refine aO ?_
    refine aS aC 3 ?_
    obtain ⟨c3, h0⟩ := aZ h0
    refine pZ [0 ≤ (8 : Int)] ⟨c3, trivial⟩ ?_
    refine bD [(0, (cR .u64 (Int.fdiv x0 (2 ^ (min (Int.toNat (8 : Int)) 64))))), (2, (eI n2))] ?_
    refine aS aC 3 ?_
    refine bA ?_
    exact aF (aG (⟨rfl, _, _, .eq (by kernel_rfl), hO, h0⟩))
   refine bN ?_
   exact aF (aG (⟨rfl, _, _, .eq (by kernel_rfl), hO, h0⟩))
  refine aX aC 2 [] [(8, (aD (decide ((65536 : Int) ≤ x0))))] ?_
  refine bK h0 (fun h0 => ?_) (fun h0 => ?_)
  ·refine aO ?_
   refine aS aC 3 ?_
   obtain ⟨c5, h0⟩ := aZ h0
   refine pZ [0 ≤ (16 : Int)] ⟨c5, trivial⟩ ?_
   refine bD [(0, (cR .u64 (Int.fdiv x0 (2 ^ (min (Int.toNat (16 : Int)) 64))))), (2, (eI n2))] ?_
   refine aS aC 3 ?_
   refine bA ?_
   exact aF (aG (⟨rfl, _, _, .eq (by kernel_rfl), hO, h0⟩))
  refine bN ?_
  exact aF (aG (⟨rfl, _, _, .eq (by kernel_rfl), hO, h0⟩))
 refine aX aC 2 [] [(4, (aD (decide ((4294967296 : Int) ≤ x0))))] ?_
 refine bK h0 (fun h0 => ?_) (fun h0 => ?_)
 ·refine aO ?_
  refine aS aC 3 ?_
  obtain ⟨c7, h0⟩ := aZ h0
  refine pZ [0 ≤ (32 : Int)] ⟨c7, trivial⟩ ?_
  refine bD [(0, (cR .u64 (Int.fdiv x0 (2 ^ (min (Int.toNat (32 : Int)) 64)))))] ?_
  refine aS aC 1 ?_
  refine bA ?_
  exact aF (aG (⟨rfl, _, _, .eq (by kernel_rfl), hO, h0⟩))
 refine bN ?_
 exact aF (aG (⟨rfl, _, _, .eq (by kernel_rfl), hO, h0⟩))

theorem FU (x0 : Int) (r : Int) (h0 : lE x0 = some r) : cZ Try.prog 66 [(cR .u64 x0)] (eI r) := by
 intro H0
 refine cY Try.func66 ?_
 have hO := aM.start H0
 unfold lE at h0
 refine aX aC 1 [] [] ?_
 refine aO ?_
 refine mQ (false) (fun hc1 => ?_) (fun hc1 => ?_)
 ·cases hc1
 ·refine bN ?_
  refine aF (aG ?_)
  refine aO ?_
  refine aS aC 3 ?_
  refine bI 1 ?_
  obtain ⟨x2, hx3, h0⟩ := aW h0
  refine cX (LY x0 _ hx3) hO ?_
  intro H hO
  refine bA ?_
  refine bD [(2, (eI x2))] ?_
  refine bG ?_
  obtain rfl := oI h0
  exact aF (Q_r hO)

theorem fX (x0 : Int) (y1 : Int) (r : Bool) (h0 : dF x0 y1 = some r) : cZ Try.prog 54 [(eI x0), (eI y1)] (aD r) := by
 intro H0
 refine cY Try.func54 ?_
 have hO := aM.start H0
 unfold dF at h0
 refine aX aC 1 [] [] ?_
 refine aO ?_
 refine aS aC 13 ?_
 refine bI 1 ?_
 obtain ⟨x1, hx2, h0⟩ := aW h0
 refine cX (vX x0 _ hx2) hO ?_
 intro H hO
 refine bI 4 ?_
 obtain ⟨x4, hx5, h0⟩ := aW h0
 refine nB [(7, true)] 71 [(eI y1)] (aD x4) x1 (by kernel_rfl) (by kernel_rfl) (by kernel_rfl) (fun hb6 => (vX y1 _ (jG hx5 hb6))) hO ?_
 intro H hO
 refine bA ?_
 refine bD [(4, (aD ((x1 && (!x4)) || (decide (x0 < y1)))))] ?_
 refine bG ?_
 obtain rfl := oI h0
 exact aF (Q_r hO)

theorem yE (lo0p : Nat) (aA : (List Int)) (a1 : Int) (b2 : Int) (r : List Int) (h0 : iK aA a1 b2 = some r) : rF Try.prog 75 lo0p 1 (List.map (eI) aA) (List.map (eI) r) [(.msl 1 lo0p 0 (List.length aA)), (eI a1), (eI b2)] (.tup []) := by
 intro H0 hl0
 refine cY Try.func75 ?_
 have hO := aM.tH hl0
 clear hl0
 obtain ⟨N0, hN0⟩ : ∃ n, n = List.length aA := ⟨_, rfl⟩
 have hN : List.length aA = N0 := hN0.symm
 unfold iK at h0
 refine aX aC 3 [] [(6, (eI (wR (a1 + (1 : Int)))))] ?_
 refine bX 0 ?_
 refine eD [(0, (.msl 1 lo0p 0 (List.length aA))), (1, (eI a1)), (2, (eI b2)), (6, (eI (wR (a1 + (1 : Int)))))] ?_
 refine eE (fun T H => ∃ aA : List Int, ∃ i6 : Int, Has T [(0, (.msl 1 lo0p 0 (List.length aA))), (1, (eI a1)), (2, (eI b2)), (6, (eI i6))] ∧ aM ⟨H0, [lo0p], []⟩ H [(lo0p, 1, List.map (eI) aA)] ∧ List.length aA = N0 ∧ jX aA a1 b2 i6 = some r) ?_ ⟨aA, wR (a1 + (1 : Int)), .eq (by kernel_rfl), hO, hN, h0⟩
 clear hO hN h0
 rintro T H ⟨aA, i6, hT, hO, hN, h0⟩
 refine bF hT ?_
 clear hT
 unfold jX at h0
 obtain ⟨rr0, hl0, h0⟩ := aW h0
 refine dK (by kernel_rfl) (fun (s : List Int × Int) T H => Has T [(0, (.msl 1 lo0p 0 (List.length s.1))), (1, (eI a1)), (2, (eI b2)), (6, (eI s.2))] ∧ aM ⟨H0, [lo0p], []⟩ H [(lo0p, 1, List.map (eI) s.1)] ∧ List.length s.1 = N0) hl0 ⟨.eq (by kernel_rfl), hO, hN⟩ ?_
 clear hO hN
 rintro k0 s out1 T H ⟨hT, hO, hN⟩ h1 ho0
 obtain ⟨aA, i6⟩ := s
 replace h1 : dS a1 b2 aA i6 = some out1 := h1
 try dsimp only at hT
 refine bF hT ?_
 clear hT
 unfold dS at h1
 refine aO ?_
 refine aX aC 3 [] [(12, (aD (decide (i6 < b2))))] ?_
 refine bK h1 (fun h1 => ?_) (fun h1 => ?_)
 ·refine bN ?_
  refine bD [(0, (.msl 1 lo0p 0 (List.length aA))), (1, (eI a1)), (2, (eI b2)), (6, (eI i6))] ?_
  refine eR (fun T H => ∃ aA : List Int, Has T [(0, (.msl 1 lo0p 0 (List.length aA))), (1, (eI a1)), (2, (eI b2)), (6, (eI i6))] ∧ aM ⟨H0, [lo0p], []⟩ H [(lo0p, 1, List.map (eI) aA)] ∧ List.length aA = N0 ∧ iC aA a1 b2 i6 = some out1) ?_ ?_
  ·clear hO hN h1
   rintro T H ⟨aA, hT, hO, hN, h1⟩
   refine bF hT ?_
   clear hT
   unfold iC at h1
   refine aS aC 3 ?_
   refine bA ?_
   exact aF (aG (⟨rfl, _, (oI h1).symm, .eq (by kernel_rfl), hO, hN⟩))
  refine bX 1 ?_
  refine aX aC 2 [] [(7, (eI i6))] ?_
  refine bX 2 ?_
  refine eD [(0, (.msl 1 lo0p 0 (List.length aA))), (1, (eI a1)), (2, (eI b2)), (6, (eI i6)), (7, (eI i6))] ?_
  refine eE (fun T H => ∃ aA : List Int, ∃ j7 : Int, Has T [(0, (.msl 1 lo0p 0 (List.length aA))), (1, (eI a1)), (2, (eI b2)), (6, (eI i6)), (7, (eI j7))] ∧ aM ⟨H0, [lo0p], []⟩ H [(lo0p, 1, List.map (eI) aA)] ∧ List.length aA = N0 ∧ jZ aA a1 b2 i6 j7 = some out1) ?_ ⟨aA, i6, .eq (by kernel_rfl), hO, hN, h1⟩
  clear hO hN h1
  rintro T H ⟨aA, j7, hT, hO, hN, h1⟩
  refine bF hT ?_
  clear hT
  unfold jZ at h1
  obtain ⟨rr1, hl1, h1⟩ := aW h1
  refine dK (by kernel_rfl) (fun (s : List Int × Int) T H => Has T [(0, (.msl 1 lo0p 0 (List.length s.1))), (1, (eI a1)), (2, (eI b2)), (6, (eI i6)), (7, (eI s.2))] ∧ aM ⟨H0, [lo0p], []⟩ H [(lo0p, 1, List.map (eI) s.1)] ∧ List.length s.1 = N0) hl1 ⟨.eq (by kernel_rfl), hO, hN⟩ ?_
  clear hO hN
  rintro k1 s out2 T H ⟨hT, hO, hN⟩ h2 ho1
  obtain ⟨aA, j7⟩ := s
  replace h2 : fH a1 b2 i6 aA j7 = some out2 := h2
  try dsimp only at hT
  refine bF hT ?_
  clear hT
  unfold fH at h2
  refine aO ?_
  refine aO ?_
  obtain ⟨c2, h2⟩ := aZ h2
  obtain ⟨c3, h2⟩ := aZ h2
  obtain ⟨x4, hx5, h2⟩ := aW h2
  refine fS (fR []) aC 15 ?_
  refine qV (K := fun T H => Has (lift T) [(0, (.msl 1 lo0p 0 (List.length aA))), (1, (eI a1)), (2, (eI b2)), (6, (eI i6)), (7, (eI j7)), (30, (aD ((decide (a1 < j7)) && x4)))] ∧ aM ⟨H0, [lo0p], []⟩ H [(lo0p, 1, List.map (eI) aA)]) ?_ ?_
  ·refine kJ 4 ?_
   refine pN (t := 19) (e := decide (a1 < j7)) (by kernel_rfl) (fun hg6 => ?_) (fun hg6 => ?_)
   ·refine cJ 7 [0 ≤ j7 ∧ j7 < (lN aA)] ⟨(c2 hg6), trivial⟩ ?_
    refine iZ 0 lo0p 1 (0 + Int.toNat j7) (eI (gD aA j7)) (eI (gD aA j7)) (List.map (eI) aA) (by kernel_rfl) (by kernel_rfl) (by kernel_rfl) hO (by kernel_rfl) (cA (c2 hg6)) ?_
    refine cJ 12 [0 ≤ (wR (j7 - (1 : Int))) ∧ (wR (j7 - (1 : Int))) < (lN aA)] ⟨(c3 hg6), trivial⟩ ?_
    refine iZ 0 lo0p 1 (0 + Int.toNat (wR (j7 - (1 : Int)))) (eI (gD aA (wR (j7 - (1 : Int))))) (eI (gD aA (wR (j7 - (1 : Int))))) (List.map (eI) aA) (by kernel_rfl) (by kernel_rfl) (by kernel_rfl) hO (by kernel_rfl) (cA (c3 hg6)) ?_
    refine pO 54 [(eI (gD aA j7)), (eI (gD aA (wR (j7 - (1 : Int)))))] (aD x4) (by kernel_rfl) (by kernel_rfl) (fX (gD aA j7) (gD aA (wR (j7 - (1 : Int)))) _ (jG hx5 hg6)) hO ?_
    intro H hO
    refine kI ?_
    exact ⟨⟨[(0, (.msl 1 lo0p 0 (List.length aA))), (1, (eI a1)), (2, (eI b2)), (6, (eI i6)), (7, (eI j7)), (30, (aD x4))], by kernel_rfl, rfl, ⟨aR.refl _, aR.refl _, aR.refl _, aR.refl _, aR.refl _, aR.eq (congrArg aD (oG hg6 rfl).symm), trivial⟩⟩, hO⟩
   refine kI ?_
   exact ⟨⟨[(0, (.msl 1 lo0p 0 (List.length aA))), (1, (eI a1)), (2, (eI b2)), (6, (eI i6)), (7, (eI j7)), (30, (aD false))], by kernel_rfl, rfl, ⟨aR.refl _, aR.refl _, aR.refl _, aR.refl _, aR.refl _, aR.eq (congrArg aD (oG hg6 rfl).symm), trivial⟩⟩, hO⟩
  ·rintro T H ⟨hT, hO⟩
   refine dJ hT ?_
   clear hT
   refine aF (aG ?_)
   refine bK h2 (fun h2 => ?_) (fun h2 => ?_)
   ·refine bN ?_
    refine bD [(0, (.msl 1 lo0p 0 (List.length aA))), (1, (eI a1)), (2, (eI b2)), (6, (eI i6)), (7, (eI j7))] ?_
    refine aO ?_
    refine bX 3 ?_
    refine fS (fR []) aC 18 ?_
    obtain ⟨c8, h2⟩ := aZ h2
    refine cJ 9 [0 ≤ (wR (j7 - (1 : Int))) ∧ (wR (j7 - (1 : Int))) < (lN aA)] ⟨c8, trivial⟩ ?_
    refine fY 0 lo0p 1 (0 + Int.toNat (wR (j7 - (1 : Int)))) (eI (gD aA (wR (j7 - (1 : Int))))) (eI (gD aA (wR (j7 - (1 : Int))))) (List.map (eI) aA) hO (cA c8) ?_
    obtain ⟨c9, h2⟩ := aZ h2
    refine cJ 13 [0 ≤ j7 ∧ j7 < (lN aA)] ⟨c9, trivial⟩ ?_
    refine fY 0 lo0p 1 (0 + Int.toNat j7) (eI (gD aA j7)) (eI (gD aA j7)) (List.map (eI) aA) hO (cA c9) ?_
    obtain ⟨c10, h2⟩ := aZ h2
    refine cJ 15 [0 ≤ j7 ∧ j7 < (lN aA)] ⟨c10, trivial⟩ ?_
    refine kZ 0 lo0p 1 (0 + Int.toNat j7) (eI (gD aA j7)) (eI (gD aA (wR (j7 - (1 : Int))))) (List.map (eI) aA) [(lo0p, 1, List.map (eI) (List.set aA (Int.toNat j7) (gD aA (wR (j7 - (1 : Int))))))] hO (cA c10) (by simp only [List.set, iI]) ?_
    intro H hO
    replace hN : List.length (List.set aA (Int.toNat j7) (gD aA (wR (j7 - (1 : Int))))) = N0 := by simpa using hN
    obtain ⟨c11, h2⟩ := aZ h2
    refine cJ 17 [0 ≤ (wR (j7 - (1 : Int))) ∧ (wR (j7 - (1 : Int))) < (lN aA)] ⟨c11, trivial⟩ ?_
    refine kZ 0 lo0p 1 (0 + Int.toNat (wR (j7 - (1 : Int)))) (eI (gD (List.set aA (Int.toNat j7) (gD aA (wR (j7 - (1 : Int))))) (wR (j7 - (1 : Int))))) (eI (gD aA j7)) (List.map (eI) (List.set aA (Int.toNat j7) (gD aA (wR (j7 - (1 : Int)))))) [(lo0p, 1, List.map (eI) (List.set (List.set aA (Int.toNat j7) (gD aA (wR (j7 - (1 : Int))))) (Int.toNat (wR (j7 - (1 : Int)))) (gD aA j7)))] hO (oS c11 (by simp [])) (by simp only [List.set, iI]) ?_
    intro H hO
    replace hN : List.length (List.set (List.set aA (Int.toNat j7) (gD aA (wR (j7 - (1 : Int))))) (Int.toNat (wR (j7 - (1 : Int)))) (gD aA j7)) = N0 := by simpa using hN
    refine nO (by kernel_rfl) ?_
    refine dJ (l := [(0, (.msl 1 lo0p 0 (List.length (List.set (List.set aA (Int.toNat j7) (gD aA (wR (j7 - (1 : Int))))) (Int.toNat (wR (j7 - (1 : Int)))) (gD aA j7))))), (1, (eI a1)), (2, (eI b2)), (6, (eI i6)), (7, (eI j7))]) ⟨[(0, (.msl 1 lo0p 0 (List.length aA))), (1, (eI a1)), (2, (eI b2)), (6, (eI i6)), (7, (eI j7))], by kernel_rfl, rfl, ⟨aR.eq (by simp []), aR.refl _, aR.refl _, aR.refl _, aR.refl _, trivial⟩⟩ ?_
    refine aF (aV (aG (?_)))
    refine aS aC 3 ?_
    refine bA ?_
    exact aF (aG (⟨rfl, _, (oI h2).symm, .eq (by kernel_rfl), hO, hN⟩))
   refine gJ 2 ?_
   obtain rfl := oI h2
   obtain rfl : _ = rr1 := ho1
   replace h1 : iC aA a1 b2 i6 = some out1 := h1
   exact aF (aY (aY (bV (aV (aG (⟨rfl, _, .eq (by kernel_rfl), hO, hN, h1⟩))))))
 refine gJ 0 ?_
 obtain rfl := oI h1
 obtain rfl : _ = rr0 := ho0
 replace h0 : some aA = some r := h0
 obtain rfl := oI h0
 exact aF (aY (aY (bV (yU (x := (.tup [])) (by kernel_rfl) (aR.refl _) ⟨rfl, hO.ext, hO.at 0 (by kernel_rfl), by first | rfl | (simp only [List.length_map]; exact hN.trans hN0)⟩))))

theorem sZ (lo0p : Nat) (aA : (List Int)) (lo1 : Int) (hi2 : Int) (bM : Int) (r : List Int) (h0 : gE aA lo1 hi2 bM = some r) : rF Try.prog 93 lo0p 1 (List.map (eI) aA) (List.map (eI) r) [(.msl 1 lo0p 0 (List.length aA)), (eI lo1), (eI hi2), (eI bM)] (.tup []) := by
 intro H0 hl0
 refine cY Try.func93 ?_
 have hO := aM.tH hl0
 clear hl0
 obtain ⟨N0, hN0⟩ : ∃ n, n = List.length aA := ⟨_, rfl⟩
 have hN : List.length aA = N0 := hN0.symm
 unfold gE at h0
 refine aX aC 2 [1] [(8, (eI lo1))] ?_
 refine bX 0 ?_
 refine eD [(0, (.msl 1 lo0p 0 (List.length aA))), (2, (eI hi2)), (3, (eI bM)), (8, (eI lo1))] ?_
 refine eE (fun T H => ∃ aA : List Int, ∃ cI : Int, Has T [(0, (.msl 1 lo0p 0 (List.length aA))), (2, (eI hi2)), (3, (eI bM)), (8, (eI cI))] ∧ aM ⟨H0, [lo0p], []⟩ H [(lo0p, 1, List.map (eI) aA)] ∧ List.length aA = N0 ∧ lT aA hi2 bM cI = some r) ?_ ⟨aA, lo1, .eq (by kernel_rfl), hO, hN, h0⟩
 clear hO hN h0
 rintro T H ⟨aA, cI, hT, hO, hN, h0⟩
 refine bF hT ?_
 clear hT
 unfold lT at h0
 obtain ⟨rr0, hl0, h0⟩ := aW h0
 refine dK (by kernel_rfl) (fun (s : List Int × Int) T H => Has T [(0, (.msl 1 lo0p 0 (List.length s.1))), (2, (eI hi2)), (3, (eI bM)), (8, (eI s.2))] ∧ aM ⟨H0, [lo0p], []⟩ H [(lo0p, 1, List.map (eI) s.1)] ∧ List.length s.1 = N0) hl0 ⟨.eq (by kernel_rfl), hO, hN⟩ ?_
 clear hO hN
 rintro k0 s out1 T H ⟨hT, hO, hN⟩ h1 ho0
 obtain ⟨aA, cI⟩ := s
 replace h1 : dO hi2 bM aA cI = some out1 := h1
 try dsimp only at hT
 refine bF hT ?_
 clear hT
 unfold dO at h1
 refine bX 1 ?_
 refine aX aC 4 [] [(9, (eI (wR ((wR ((2 : Int) * cI)) + (1 : Int)))))] ?_
 refine aO ?_
 refine aX aC 3 [] [(16, (aD (decide (hi2 ≤ (wR ((wR ((2 : Int) * cI)) + (1 : Int)))))))] ?_
 refine bK h1 (fun h1 => ?_) (fun h1 => ?_)
 ·refine gJ 0 ?_
  obtain rfl := oI h1
  obtain rfl : _ = rr0 := ho0
  replace h0 : some aA = some r := h0
  obtain rfl := oI h0
  exact aF (aY (vB (by kernel_rfl) (aY (bV (yU (x := (.tup [])) (by kernel_rfl) (aR.refl _) ⟨rfl, hO.ext, hO.at 0 (by kernel_rfl), by first | rfl | (simp only [List.length_map]; exact hN.trans hN0)⟩)))))
 refine bN ?_
 refine bD [(0, (.msl 1 lo0p 0 (List.length aA))), (2, (eI hi2)), (3, (eI bM)), (8, (eI cI)), (9, (eI (wR ((wR ((2 : Int) * cI)) + (1 : Int)))))] ?_
 refine eR (fun T H => ∃ aA : List Int, ∃ eF : Int, Has T [(0, (.msl 1 lo0p 0 (List.length aA))), (2, (eI hi2)), (3, (eI bM)), (8, (eI cI)), (9, (eI eF))] ∧ aM ⟨H0, [lo0p], []⟩ H [(lo0p, 1, List.map (eI) aA)] ∧ List.length aA = N0 ∧ iD aA hi2 bM cI eF = some out1) ?_ ?_
 ·clear hO hN h1
  rintro T H ⟨aA, eF, hT, hO, hN, h1⟩
  refine bF hT ?_
  clear hT
  unfold iD at h1
  refine aO ?_
  refine aO ?_
  refine fS (fR [51]) aC 14 ?_
  obtain ⟨c2, h1⟩ := aZ h1
  refine cJ 5 [0 ≤ (wR (bM + cI)) ∧ (wR (bM + cI)) < (lN aA)] ⟨c2, trivial⟩ ?_
  refine fY 0 lo0p 1 (0 + Int.toNat (wR (bM + cI))) (eI (gD aA (wR (bM + cI)))) (eI (gD aA (wR (bM + cI)))) (List.map (eI) aA) hO (cA c2) ?_
  obtain ⟨c3, h1⟩ := aZ h1
  refine cJ 11 [0 ≤ (wR (bM + eF)) ∧ (wR (bM + eF)) < (lN aA)] ⟨c3, trivial⟩ ?_
  refine fY 0 lo0p 1 (0 + Int.toNat (wR (bM + eF))) (eI (gD aA (wR (bM + eF)))) (eI (gD aA (wR (bM + eF)))) (List.map (eI) aA) hO (cA c3) ?_
  obtain ⟨x4, hx5, h1⟩ := aW h1
  refine AY (fX (gD aA (wR (bM + cI))) (gD aA (wR (bM + eF))) _ hx5) hO ?_
  intro H hO
  refine kI ?_
  refine bP [] [(52, (aD (!x4)))] ?_
  refine bK h1 (fun h1 => ?_) (fun h1 => ?_)
  ·refine bG ?_
   obtain rfl := oI h1
   obtain rfl : _ = rr0 := ho0
   replace h0 : some aA = some r := h0
   obtain rfl := oI h0
   exact aF (aT (bC (aT (bC (kA (x := (.tup [])) (by kernel_rfl) (aR.refl _) ⟨rfl, hO.ext, hO.at 0 (by kernel_rfl), by first | rfl | (simp only [List.length_map]; exact hN.trans hN0)⟩)))))
  refine bN ?_
  refine bD [(0, (.msl 1 lo0p 0 (List.length aA))), (2, (eI hi2)), (3, (eI bM)), (8, (eI cI)), (9, (eI eF))] ?_
  refine aO ?_
  refine fS (fR []) aC 24 ?_
  obtain ⟨c8, h1⟩ := aZ h1
  refine cJ 13 [0 ≤ (wR (bM + eF)) ∧ (wR (bM + eF)) < (lN aA)] ⟨c8, trivial⟩ ?_
  refine fY 0 lo0p 1 (0 + Int.toNat (wR (bM + eF))) (eI (gD aA (wR (bM + eF)))) (eI (gD aA (wR (bM + eF)))) (List.map (eI) aA) hO (cA c8) ?_
  obtain ⟨c9, h1⟩ := aZ h1
  refine cJ 19 [0 ≤ (wR (bM + cI)) ∧ (wR (bM + cI)) < (lN aA)] ⟨c9, trivial⟩ ?_
  refine fY 0 lo0p 1 (0 + Int.toNat (wR (bM + cI))) (eI (gD aA (wR (bM + cI)))) (eI (gD aA (wR (bM + cI)))) (List.map (eI) aA) hO (cA c9) ?_
  obtain ⟨c10, h1⟩ := aZ h1
  refine cJ 21 [0 ≤ (wR (bM + cI)) ∧ (wR (bM + cI)) < (lN aA)] ⟨c10, trivial⟩ ?_
  refine kZ 0 lo0p 1 (0 + Int.toNat (wR (bM + cI))) (eI (gD aA (wR (bM + cI)))) (eI (gD aA (wR (bM + eF)))) (List.map (eI) aA) [(lo0p, 1, List.map (eI) (List.set aA (Int.toNat (wR (bM + cI))) (gD aA (wR (bM + eF)))))] hO (cA c10) (by simp only [List.set, iI]) ?_
  intro H hO
  replace hN : List.length (List.set aA (Int.toNat (wR (bM + cI))) (gD aA (wR (bM + eF)))) = N0 := by simpa using hN
  obtain ⟨c11, h1⟩ := aZ h1
  refine cJ 23 [0 ≤ (wR (bM + eF)) ∧ (wR (bM + eF)) < (lN aA)] ⟨c11, trivial⟩ ?_
  refine kZ 0 lo0p 1 (0 + Int.toNat (wR (bM + eF))) (eI (gD (List.set aA (Int.toNat (wR (bM + cI))) (gD aA (wR (bM + eF)))) (wR (bM + eF)))) (eI (gD aA (wR (bM + cI)))) (List.map (eI) (List.set aA (Int.toNat (wR (bM + cI))) (gD aA (wR (bM + eF))))) [(lo0p, 1, List.map (eI) (List.set (List.set aA (Int.toNat (wR (bM + cI))) (gD aA (wR (bM + eF)))) (Int.toNat (wR (bM + eF))) (gD aA (wR (bM + cI)))))] hO (oS c11 (by simp [])) (by simp only [List.set, iI]) ?_
  intro H hO
  replace hN : List.length (List.set (List.set aA (Int.toNat (wR (bM + cI))) (gD aA (wR (bM + eF)))) (Int.toNat (wR (bM + eF))) (gD aA (wR (bM + cI)))) = N0 := by simpa using hN
  refine nO (by kernel_rfl) ?_
  refine dJ (l := [(0, (.msl 1 lo0p 0 (List.length (List.set (List.set aA (Int.toNat (wR (bM + cI))) (gD aA (wR (bM + eF)))) (Int.toNat (wR (bM + eF))) (gD aA (wR (bM + cI))))))), (2, (eI hi2)), (3, (eI bM)), (9, (eI eF))]) ⟨[(0, (.msl 1 lo0p 0 (List.length aA))), (2, (eI hi2)), (3, (eI bM)), (9, (eI eF))], by kernel_rfl, rfl, ⟨aR.eq (by simp []), aR.refl _, aR.refl _, aR.refl _, trivial⟩⟩ ?_
  refine aF (aG (?_))
  refine aS aC 2 ?_
  refine bA ?_
  exact aF (aV (aG (⟨rfl, _, (oI h1).symm, .eq (by kernel_rfl), hO, hN⟩)))
 refine aO ?_
 obtain ⟨c12, h1⟩ := aZ h1
 obtain ⟨c13, h1⟩ := aZ h1
 obtain ⟨x14, hx15, h1⟩ := aW h1
 refine fS (fR []) aC 20 ?_
 refine qV (K := fun T H => Has (lift T) [(0, (.msl 1 lo0p 0 (List.length aA))), (2, (eI hi2)), (3, (eI bM)), (8, (eI cI)), (9, (eI (wR ((wR ((2 : Int) * cI)) + (1 : Int))))), (36, (aD ((decide ((wR ((wR ((wR ((2 : Int) * cI)) + (1 : Int))) + (1 : Int))) < hi2)) && x14)))] ∧ aM ⟨H0, [lo0p], []⟩ H [(lo0p, 1, List.map (eI) aA)]) ?_ ?_
 ·refine kJ 5 ?_
  refine pN (t := 21) (e := decide ((wR ((wR ((wR ((2 : Int) * cI)) + (1 : Int))) + (1 : Int))) < hi2)) (by kernel_rfl) (fun hg16 => ?_) (fun hg16 => ?_)
  ·refine cJ 10 [0 ≤ (wR (bM + (wR ((wR ((2 : Int) * cI)) + (1 : Int))))) ∧ (wR (bM + (wR ((wR ((2 : Int) * cI)) + (1 : Int))))) < (lN aA)] ⟨(c12 hg16), trivial⟩ ?_
   refine iZ 0 lo0p 1 (0 + Int.toNat (wR (bM + (wR ((wR ((2 : Int) * cI)) + (1 : Int)))))) (eI (gD aA (wR (bM + (wR ((wR ((2 : Int) * cI)) + (1 : Int))))))) (eI (gD aA (wR (bM + (wR ((wR ((2 : Int) * cI)) + (1 : Int))))))) (List.map (eI) aA) (by kernel_rfl) (by kernel_rfl) (by kernel_rfl) hO (by kernel_rfl) (cA (c12 hg16)) ?_
   refine cJ 17 [0 ≤ (wR ((wR (bM + (wR ((wR ((2 : Int) * cI)) + (1 : Int))))) + (1 : Int))) ∧ (wR ((wR (bM + (wR ((wR ((2 : Int) * cI)) + (1 : Int))))) + (1 : Int))) < (lN aA)] ⟨(c13 hg16), trivial⟩ ?_
   refine iZ 0 lo0p 1 (0 + Int.toNat (wR ((wR (bM + (wR ((wR ((2 : Int) * cI)) + (1 : Int))))) + (1 : Int)))) (eI (gD aA (wR ((wR (bM + (wR ((wR ((2 : Int) * cI)) + (1 : Int))))) + (1 : Int))))) (eI (gD aA (wR ((wR (bM + (wR ((wR ((2 : Int) * cI)) + (1 : Int))))) + (1 : Int))))) (List.map (eI) aA) (by kernel_rfl) (by kernel_rfl) (by kernel_rfl) hO (by kernel_rfl) (cA (c13 hg16)) ?_
   refine pO 54 [(eI (gD aA (wR (bM + (wR ((wR ((2 : Int) * cI)) + (1 : Int))))))), (eI (gD aA (wR ((wR (bM + (wR ((wR ((2 : Int) * cI)) + (1 : Int))))) + (1 : Int)))))] (aD x14) (by kernel_rfl) (by kernel_rfl) (fX (gD aA (wR (bM + (wR ((wR ((2 : Int) * cI)) + (1 : Int)))))) (gD aA (wR ((wR (bM + (wR ((wR ((2 : Int) * cI)) + (1 : Int))))) + (1 : Int)))) _ (jG hx15 hg16)) hO ?_
   intro H hO
   refine kI ?_
   exact ⟨⟨[(0, (.msl 1 lo0p 0 (List.length aA))), (2, (eI hi2)), (3, (eI bM)), (8, (eI cI)), (9, (eI (wR ((wR ((2 : Int) * cI)) + (1 : Int))))), (36, (aD x14))], by kernel_rfl, rfl, ⟨aR.refl _, aR.refl _, aR.refl _, aR.refl _, aR.refl _, aR.eq (congrArg aD (oG hg16 rfl).symm), trivial⟩⟩, hO⟩
  refine kI ?_
  exact ⟨⟨[(0, (.msl 1 lo0p 0 (List.length aA))), (2, (eI hi2)), (3, (eI bM)), (8, (eI cI)), (9, (eI (wR ((wR ((2 : Int) * cI)) + (1 : Int))))), (36, (aD false))], by kernel_rfl, rfl, ⟨aR.refl _, aR.refl _, aR.refl _, aR.refl _, aR.refl _, aR.eq (congrArg aD (oG hg16 rfl).symm), trivial⟩⟩, hO⟩
 ·rintro T H ⟨hT, hO⟩
  refine dJ hT ?_
  clear hT
  refine aF (aG ?_)
  refine bK h1 (fun h1 => ?_) (fun h1 => ?_)
  ·refine aS aC 3 ?_
   refine bA ?_
   exact aF (aG (⟨rfl, _, _, .eq (by kernel_rfl), hO, hN, h1⟩))
  refine bN ?_
  exact aF (aG (⟨rfl, _, _, .eq (by kernel_rfl), hO, hN, h1⟩))

end Go.Abs
