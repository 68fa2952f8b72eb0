/- What the law PackEdges stands on: the framework, the given functions as plain functions, their walks, and the plain laws; part 6. -/
import Derived.Test.YtfepdngmgjmniaaGreatPackEdgesZ5
set_option linter.unusedSimpArgs false
set_option linter.unusedVariables false
namespace Go.Abs
open Go
theorem YI {a b : aG} (ha : vI a = true) (hb : vI b = true) : sY a b = some (CD a b) := by
  unfold sY
  simp only [SQ, ha, hb, Option.bind_some, Bool.not_true, Bool.not_false, cP, cond_true, Bool.or_self, cond_false]
  unfold CD
  by_cases hk : a.Kind = b.Kind
  · rw [if_pos hk]
    by_cases hn : a.Num = b.Num
    · rw [if_pos hn]
      simp only [hk, hn, decide_true, Bool.not_true, cond_false, vA]
      obtain ⟨x, e, hx⟩ := XP (VR ha) (VR hb) _ 0 rfl (Nat.zero_le _)
      simp only [Int.natCast_zero, List.drop_zero] at e hx
      rw [e]
      have ht : TQ a.Text b.Text = gH GA a.Text.data.toList b.Text.data.toList := rfl
      rcases hx with ⟨rfl, h⟩ | ⟨v, rfl, h⟩
      · rw [ht, h]
        simp only [Option.bind_some, Sum.elim_inl, rR]
        unfold oM
        by_cases h1 : a.Text.size = b.Text.size
        · have h1' : ((a.Text.size : Nat) : Int) = ((b.Text.size : Nat) : Int) := by omega
          simp [h1']
        · have h1' : ¬ ((a.Text.size : Nat) : Int) = ((b.Text.size : Nat) : Int) := by omega
          by_cases h2 : ((a.Text.size : Nat) : Int) < ((b.Text.size : Nat) : Int)
          · simp only [h1', h2, decide_false, decide_true, Bool.not_false, cond_true, if_true]
          · have h3 : ((b.Text.size : Nat) : Int) < ((a.Text.size : Nat) : Int) := by omega
            simp only [h1', h2, h3, decide_false, Bool.not_false, cond_true, cond_false, if_true, if_false]
      · rw [ht, h]; rfl
    · rw [if_neg hn]
      simp only [hk, hn, decide_true, decide_false, Bool.not_true, Bool.not_false, cond_false, cond_true]
      unfold oM
      by_cases h1 : a.Num < b.Num
      · simp [h1]
      · have h2 : b.Num < a.Num := by omega
        simp [h1, h2]
  · rw [if_neg hk]
    simp only [hk, decide_false, Bool.not_false, cond_true]
    rcases UD ha with h1 | h1 <;> rcases UD hb with h2 | h2
    · exact absurd (h1.trans h2.symm) hk
    · rw [h1, h2]; rfl
    · rw [h1, h2]; rfl
    · exact absurd (h1.trans h2.symm) hk

theorem UP {a b : List aG} (ha : fC a = true) (hb : fC b = true) : ∀ (m k : Nat), min a.length b.length - k = m → k ≤ min a.length b.length →
    ∃ x, lp (fun s => gM a b s) (k : Int) = some x ∧ ((x = .inl () ∧ eB (a.drop k) (b.drop k) = oM a.length b.length) ∨ (∃ v, x = .inr v ∧ eB (a.drop k) (b.drop k) = v))
  | 0, k, hm, hk => by
    refine ⟨.inl (), cT ?_, .inl ⟨rfl, ZP (by omega) (by omega) (by omega)⟩⟩
    show gM a b _ = _
    have : ((decide ((k : Int) < ((a.length : Nat) : Int))) && (decide ((k : Int) < ((b.length : Nat) : Int)))) = false := by
      rw [Bool.and_eq_false_iff]
      simp only [decide_eq_false_iff_not]
      omega
    simp only [gM, this, cond_false]
  | m + 1, k, hm, hk => by
    obtain ⟨la, ma⟩ := wX ha
    obtain ⟨lb, mb⟩ := wX hb
    have h1 : k < a.length := by omega
    have h2 : k < b.length := by omega
    obtain ⟨d1, d2, d3, d4⟩ := idx (List.getElem?_eq_getElem h1) (by omega)
    obtain ⟨e1, e2, e3, _⟩ := idx (List.getElem?_eq_getElem h2) (by omega)
    have ea := List.drop_eq_getElem_cons h1
    have eb := List.drop_eq_getElem_cons h2
    have hb' : gM a b (k : Int) = some (if a[k] = b[k] then .inl ((k + 1 : Nat) : Int) else .inr (.inr (CD a[k] b[k]))) := by
      simp only [gM, d1, e1, Bool.and_self, cond_true, aX d2, aX e2, d3, e3, d4, YI (ma _ (List.getElem_mem h1)) (mb _ (List.getElem_mem h2)), Option.bind_some]
      by_cases h : a[k] = b[k]
      · have := (KJ.eq a[k] b[k]).2 h
        simp [h, (KJ.eq b[k] b[k]).2 rfl]
      · have : ¬ CD a[k] b[k] = 0 := fun h' => h ((KJ.eq _ _).1 h')
        simp [h, this]
    by_cases h : a[k] = b[k]
    · rw [if_pos h] at hb'
      obtain ⟨x, hx1, hx2⟩ := UP ha hb m (k + 1) (by omega) (by omega)
      refine ⟨x, by rw [dQ (show (fun s => gM a b s) (k : Int) = _ from hb')]; exact hx1, ?_⟩
      have hc : eB (a.drop k) (b.drop k) = eB (a.drop (k + 1)) (b.drop (k + 1)) := by
        rw [ea, eb]; unfold eB; rw [gH, if_pos h]
      rw [hc]; exact hx2
    · rw [if_neg h] at hb'
      refine ⟨_, cT (show (fun s => gM a b s) (k : Int) = _ from hb'), .inr ⟨_, rfl, ?_⟩⟩
      rw [ea, eb]; unfold eB; rw [gH, if_neg h]

theorem MP (a b : List aG) (hla : a.length ≤ 17592186044416) (hlb : b.length ≤ 17592186044416) : pX a b = some (if fC a && fC b then eB a b else 0) := by
  unfold pX
  rw [DS a (by omega)]
  simp only [Option.bind_some]
  cases ha : fC a
  · simp [cP]
  · simp only [Bool.not_true, Bool.not_false, cP, cond_true, DS b (by omega), Option.bind_some, Bool.false_or]
    cases hb : fC b
    · simp
    · simp only [Bool.not_true, cond_false, uZ, Bool.and_self, if_true]
      obtain ⟨x, e, hx⟩ := UP ha hb _ 0 rfl (Nat.zero_le _)
      simp only [Int.natCast_zero, List.drop_zero] at e hx
      rw [e]
      rcases hx with ⟨rfl, h⟩ | ⟨v, rfl, h⟩
      · rw [h]
        simp only [Option.bind_some, Sum.elim_inl, rI]
        unfold oM
        by_cases h1 : a.length < b.length
        · simp [h1]
        · by_cases h2 : b.length < a.length <;> simp [h1, h2]
      · rw [h]; rfl

end Go.Abs
namespace Go.Abs
open Go
def jE (e : aC) : aA := ⟨e.At, e.Net⟩

def gA (r : List aG) (f : List aA) : List aC → List (List aG × List aA)
  | [] => [(r, f)]
  | e :: l => if e.Row = r then gA r (f ++ [jE e]) l else (r, f) :: gA e.Row [jE e] l

def groups : List aC → List (List aG × List aA)
  | [] => []
  | e :: l => gA e.Row [jE e] l

def itG {σ : Type} (y : σ → List aG → List aA → Option (σ × Bool)) : List (List aG × List aA) → σ → Option σ
  | [], s => some s
  | g :: gs, s => (y s g.1 g.2).bind fun x => if x.2 then itG y gs x.1 else some x.1

def okL (l : List aC) : Prop := l.length ≤ 3518437208783 ∧ ∀ e ∈ l, e.Row.length ≤ 4398046510976

theorem KE {r : List aG} (h : r.length ≤ 4398046510976) : vJ r = some r := by
  unfold vJ
  rw [aX ⟨by omega, by omega, by omega⟩, aX (by simp only [List.length_nil, Nat.zero_add]; omega)]
  rfl

theorem RZ {σ : Type} {y : σ → List aG → List aA → Option (σ × Bool)} {l : List aC} (hl : okL l) (row : List aG) (sg : σ) : ∀ (r : List aC) (k : Nat) (f : List aA), l.drop k = r → k ≤ l.length → f.length ≤ k →
    ∃ k' f', k ≤ k' ∧ k' ≤ l.length ∧ f'.length ≤ k' ∧ lp (fun s : σ × Int × List aA => jG y l row s.1 s.2.1 s.2.2) (sg, (k : Int), f) = some (sg, ((k' : Nat) : Int), f') ∧
      gA row f r = (row, f') :: groups (l.drop k') ∧ (∀ e r', r = e :: r' → e.Row = row → k < k')
  | [], k, f, hd, hk, hf => by
    have : k = l.length := by
      have := congrArg List.length hd
      simp only [List.length_drop, List.length_nil] at this; omega
    subst this
    refine ⟨l.length, f, Nat.le_refl _, Nat.le_refl _, hf, cT ?_, by simp [gA, groups], fun e r' h => by cases h⟩
    show jG _ _ _ _ _ _ = _
    simp only [jG, cY, cP, cond_false, Option.bind_some, Bool.false_and]
    exact aX (fun h => by cases h)
  | a :: r, k, f, hd, hk, hf => by
    obtain ⟨h1, h2⟩ := drop_cons hd
    have hlt : k < l.length := (List.getElem?_eq_some_iff.1 h1).1
    obtain ⟨hll, hlr⟩ := hl
    obtain ⟨d1, d2, d3, d4⟩ := idx h1 (by omega)
    have har := hlr a (List.mem_of_getElem? h1)
    have hb : (fun s : σ × Int × List aA => jG y l row s.1 s.2.1 s.2.2) (sg, (k : Int), f) = some (if a.Row = row then .inl (sg, ((k + 1 : Nat) : Int), f ++ [jE a]) else .inr (sg, (k : Int), f)) := by
      show jG _ _ _ _ _ _ = _
      simp only [jG, d1, d3, d4, cP, cond_true, RS a.Row row (by omega), Option.bind_some, Bool.true_and]
      rw [aX (fun _ => d2)]
      by_cases e : a.Row = row
      · simp only [e, decide_true, cond_true, if_true]
        rw [aX d2, aX d2, aX (by simp only [List.length_cons, List.length_nil]; omega)]
        rfl
      · simp [e]
    by_cases e : a.Row = row
    · rw [if_pos e] at hb
      obtain ⟨k', f', g1, g2, g3, g4, g5, _⟩ := RZ ⟨hll, hlr⟩ row sg r (k + 1) (f ++ [jE a]) h2 (by omega) (by simp; omega) (y := y)
      refine ⟨k', f', by omega, g2, g3, by rw [dQ hb]; exact g4, by simp [gA, e, g5], fun _ _ _ _ => by omega⟩
    · rw [if_neg e] at hb
      refine ⟨k, f, Nat.le_refl _, hk, hf, cT hb, ?_, fun b r' h hr => by cases h; exact absurd hr e⟩
      rw [hd]; simp [gA, e, groups]

theorem aBC {σ : Type} {y : σ → List aG → List aA → Option (σ × Bool)} {l : List aC} (hl : okL l) : ∀ (m k : Nat) (sg s' : σ), l.length - k ≤ m → k ≤ l.length → itG y (groups (l.drop k)) sg = some s' →
    ∃ x, lp (fun s : σ × Int => gL y l s.1 s.2) (sg, (k : Int)) = some x ∧ Sum.elim id id x = s' := by
  have stop : ∀ (sg s' : σ), itG y (groups (l.drop l.length)) sg = some s' → ∃ x, lp (fun s : σ × Int => gL y l s.1 s.2) (sg, ((l.length : Nat) : Int)) = some x ∧ Sum.elim id id x = s' := by
    intro sg s' h
    rw [List.drop_length] at h
    simp only [groups, itG, Option.some.injEq] at h
    refine ⟨.inl sg, cT ?_, h⟩
    show gL _ _ _ _ = _
    simp only [gL, cY, cond_false]
  intro m
  induction m with
  | zero =>
    intro k sg s' hm hk h
    have : k = l.length := by omega
    subst this; exact stop sg s' h
  | succ m ih =>
    intro k sg s' hm hk h
    by_cases he : k = l.length
    · subst he; exact stop sg s' h
    · have hlt : k < l.length := by omega
      have hd : l.drop k = l[k] :: l.drop (k + 1) := List.drop_eq_getElem_cons hlt
      obtain ⟨d1, d2, d3, d4⟩ := idx (List.getElem?_eq_getElem hlt) (by have := hl.1; omega)
      obtain ⟨k', f', g1, g2, g3, g4, g5, g6⟩ := RZ hl l[k].Row sg (l.drop k) k [] rfl hk (by simp) (y := y)
      have hk' := g6 _ _ hd rfl
      have hg : groups (l.drop k) = (l[k].Row, f') :: groups (l.drop k') := by
        rw [← g5, hd]; simp [groups, gA]
      rw [hg] at h
      simp only [itG] at h
      obtain ⟨x, hx, h⟩ := aW h
      have hrow := hl.2 _ (List.getElem_mem hlt)
      have hb : (fun s : σ × Int => gL y l s.1 s.2) (sg, (k : Int)) = some (if x.2 then .inl (x.1, ((k' : Nat) : Int)) else .inr (.inr x.1)) := by
        show gL _ _ _ _ = _
        simp only [gL, d1, cond_true, aX d2, d3, vK, g4, Option.bind_some, rN, KE hrow, hx]
        cases x.2 <;> simp
      cases hx2 : x.2
      · rw [hx2] at hb h
        simp only [Bool.false_eq_true, if_false, Option.some.injEq] at hb h
        exact ⟨_, cT hb, h⟩
      · rw [hx2] at hb h
        simp only [if_true] at hb h
        obtain ⟨z, hz1, hz2⟩ := ih k' x.1 s' (by omega) g2 h
        exact ⟨z, by rw [dQ hb]; exact hz1, hz2⟩

theorem TO {σ : Type} {y : σ → List aG → List aA → Option (σ × Bool)} {l : List aC} (hl : okL l) {s s' : σ} (h : itG y (groups l) s = some s') : nJ y l s = some s' := by
  unfold nJ vB
  obtain ⟨x, h1, h2⟩ := aBC hl l.length 0 s s' (by omega) (Nat.zero_le _) (by simpa using h)
  simp only [Int.natCast_zero] at h1
  rw [h1]
  cases x <;> simpa using h2

def ahd (last : Option (List aG)) (r : List aG) : Bool := match last with
  | none => true
  | some q => decide (eB q r < 0)

def BQ (p : List aA → Bool) : Option (List aG) → List (List aG × List aA) → Bool
  | _, [] => true
  | last, g :: gs => (fC g.1 && ahd last g.1 && p g.2) && BQ p (some g.1) gs

theorem aAT {holds : List aA → Option Bool} {p : List aA → Bool} (hp : ∀ f, holds f = some (p f)) (c : List aC) (t : Bool) : ∀ (gs : List (List aG × List aA)) (last : List aG) (b : Bool), (b = true → fC last = true) →
    ∃ x, itG (fun st r f => rnd (fun (s : Bool × (List aG) × Bool) => rQ holds c s.1 s.2.1 s.2.2 r f) st) gs (.inl (t, last, b)) = some x ∧
      (if BQ p (if b then some last else none) gs then ∃ u, x = .inl (t, u) else ∃ u, x = .inr (false, u))
  | [], last, b, _ => ⟨_, rfl, by simp [BQ]⟩
  | g :: gs, last, b, hb => by
    have hy : rQ holds c t last b g.1 g.2 = some (if fC g.1 && ahd (if b then some last else none) g.1 && p g.2 then .inl (t, g.1, true) else .inr (false, last, b)) := by
      unfold rQ
      simp only [JF, Option.bind_some, UN, hp]
      cases hm : fC g.1
      · simp [cP]
      · cases b
        · cases h2 : p g.2 <;> simp [cP, ahd, h2]
        · have hl := hb rfl
          by_cases h1 : eB last g.1 < 0
          · have h1' : ¬ (0 ≤ eB last g.1) := by omega
            cases h2 : p g.2 <;> simp [cP, ahd, h2, hl, h1, h1']
          · have h1' : 0 ≤ eB last g.1 := by omega
            simp [cP, ahd, hl, h1, h1']
    cases hc : (fC g.1 && ahd (if b then some last else none) g.1 && p g.2)
    · rw [hc] at hy
      simp only [itG, rnd, hy, Option.bind_some, BQ, hc]
      exact ⟨.inr (false, last, b), by simp, by simp⟩
    · rw [hc] at hy
      simp only [itG, rnd, hy, Option.bind_some, BQ, hc]
      have hm : fC g.1 = true := by simp only [Bool.and_eq_true] at hc; exact hc.1.1
      obtain ⟨x, h1, h2⟩ := aAT hp c t gs g.1 true (fun _ => hm)
      refine ⟨x, ?_, ?_⟩
      · simpa [rnd] using h1
      · simpa using h2

theorem aA6 {l : List aC} (hl : okL l) {holds : List aA → Option Bool} {p : List aA → Bool} (hp : ∀ f, holds f = some (p f)) : wW l holds = some (decide (l.length ≤ 4096) && BQ p none (groups l)) := by
  unfold wW
  by_cases h : l.length ≤ 4096
  · have h1 : decide ((4096 : Int) < ((l.length : Nat) : Int)) = false := by simp; omega
    rw [h1, cond_false]
    simp only [qT, Option.bind_some, ED]
    obtain ⟨x, e1, e2⟩ := aAT hp l false (groups l) [] false (fun h => by cases h)
    rw [TO hl e1]
    simp only [Bool.false_eq_true, if_false] at e2
    simp only [h, decide_true, Bool.true_and]
    cases hc : BQ p none (groups l)
    · rw [hc] at e2
      simp only [Bool.false_eq_true, if_false] at e2
      obtain ⟨u, rfl⟩ := e2
      rfl
    · rw [hc] at e2
      simp only [if_true] at e2
      obtain ⟨u, rfl⟩ := e2
      rfl
  · have h1 : decide ((4096 : Int) < ((l.length : Nat) : Int)) = true := by simp; omega
    rw [h1, cond_true]
    simp [h]

def oJ (l : List aC) : Bool := decide (l.length ≤ 4096) && BQ fL none (groups l)

theorem aA5 {l : List aC} (hl : okL l) : zF l = some (oJ l) := by
  unfold zF
  rw [aA6 hl (p := fL) (fun f => SK f)]; rfl

def TG (f : List aA) : Bool := fL f && decide (0 ≤ tA f)

def pP (l : List aC) : Bool := decide (l.length ≤ 4096) && BQ TG none (groups l)

theorem aCn {l : List aC} (hl : okL l) : yI l = some (pP l) := by
  unfold yI
  rw [aA6 hl (p := TG) (fun f => by
    unfold uQ TG
    rw [SK]
    cases h : fL f <;> simp [cP, aDB, h])]
  rfl

def eR (r : List aG) (f : List aA) : List aC := f.map fun j => ⟨r, j.At, j.Net⟩

theorem put_eq {out : List aC} {r : List aG} {f : List aA} (hr : r.length ≤ 4398046510976) (hl : out.length + f.length ≤ 1099511627776) : DT out r f = some (out ++ eR r f) := by
  unfold DT ER
  rw [iN (l := f) (body := fun s : List aC × Int => qU r f (f.length : Nat) s.1 s.2) (fun o i => (o, i)) (fun o t => o ++ eR r t) (fun o t => o.length + t.length ≤ 1099511627776) out ?_ ?_ hl]
  · rfl
  · intro i a t o ha hi
    left
    obtain ⟨d1, d2, d3, d4⟩ := idx ha (by have := (List.getElem?_eq_some_iff.1 ha).1; omega)
    simp only [List.length_cons] at hi
    refine ⟨o ++ [⟨r, a.At, a.Net⟩], ?_, by simp; omega, by simp [eR]⟩
    show qU _ _ _ _ _ = _
    simp only [qU, d1, cond_true, aX d2, d3, d4, KE hr, Option.bind_some]
    exact aX (by simp only [List.length_cons, List.length_nil]; omega)
  · intro o _
    show qU _ _ _ _ _ = _
    simp only [qU, cY, cond_false]
    simp [eR]

def rH (by1 : List aA → List aA × Int) : List (List aG × List aA) → List aC → List aC × Int
  | [], out => (out, 0)
  | g :: gs, out => if (by1 g.2).2 ≠ 0 then ([], (by1 g.2).2) else if 4096 < (out ++ eR g.1 (by1 g.2).1).length then ([], 7) else rH by1 gs (out ++ eR g.1 (by1 g.2).1)

theorem VN {by0 : List aA → Option (List aA × Int)} {by1 : List aA → List aA × Int} (c : List aC) : ∀ (gs : List (List aG × List aA)) (out : List aC), out.length ≤ 4096 → (∀ g ∈ gs, by0 g.2 = some (by1 g.2) ∧ (by1 g.2).1.length ≤ 1024 ∧ g.1.length ≤ 4398046510976) →
    ∃ x, itG (fun st r f => rnd (fun (s : (List aC) × Int × List aC) => oU by0 c s.1 s.2.1 s.2.2 r f) st) gs (.inl ([], 0, out)) = some x ∧ Sum.elim (fun s : (List aC) × Int × List aC => (s.2.2, (0 : Int))) (fun s => (s.1, s.2.1)) x = rH by1 gs out
  | [], out, _, _ => ⟨_, rfl, rfl⟩
  | g :: gs, out, ho, hg => by
    obtain ⟨h1, h2, h3⟩ := hg g (by simp)
    have hy : oU by0 c [] 0 out g.1 g.2 = some (if (by1 g.2).2 ≠ 0 then .inr ([], (by1 g.2).2, out) else if 4096 < (out ++ eR g.1 (by1 g.2).1).length then .inr ([], 7, out ++ eR g.1 (by1 g.2).1) else .inl ([], 0, out ++ eR g.1 (by1 g.2).1)) := by
      unfold oU
      simp only [h1, Option.bind_some, put_eq h3 (show out.length + (by1 g.2).1.length ≤ 1099511627776 by omega)]
      by_cases e1 : (by1 g.2).2 = 0
      · by_cases e2 : 4096 < (out ++ eR g.1 (by1 g.2).1).length
        · have e2' : (4096 : Int) < (((out ++ eR g.1 (by1 g.2).1).length : Nat) : Int) := by omega
          simp only [e1, e2, e2', decide_true, Bool.not_true, cond_false, cond_true, ne_eq, not_true_eq_false, if_false, if_true]
        · have e2' : ¬ (4096 : Int) < (((out ++ eR g.1 (by1 g.2).1).length : Nat) : Int) := by omega
          simp only [e1, e2, e2', decide_true, decide_false, Bool.not_true, cond_false, ne_eq, not_true_eq_false, if_false]
      · simp only [e1, decide_false, Bool.not_false, cond_true, ne_eq, not_false_eq_true, if_true]
    simp only [itG, rnd, hy, Option.bind_some, rH]
    by_cases e1 : (by1 g.2).2 ≠ 0
    · rw [if_pos e1, if_pos e1]; exact ⟨_, rfl, rfl⟩
    · rw [if_neg e1, if_neg e1]
      by_cases e2 : 4096 < (out ++ eR g.1 (by1 g.2).1).length
      · rw [if_pos e2, if_pos e2]; exact ⟨_, rfl, rfl⟩
      · rw [if_neg e2, if_neg e2]
        exact VN c gs _ (by omega) (fun q hq => hg q (by simp [hq]))

theorem aCU {l : List aC} (hl : okL l) {by0 : List aA → Option (List aA × Int)} {by1 : List aA → List aA × Int} (hb : ∀ g ∈ groups l, by0 g.2 = some (by1 g.2) ∧ (by1 g.2).1.length ≤ 1024 ∧ g.1.length ≤ 4398046510976) : wD l by0 = some (rH by1 (groups l) []) := by
  unfold wD
  simp only [qT, Option.bind_some, zJ]
  obtain ⟨x, e1, e2⟩ := VN (by0 := by0) (by1 := by1) l (groups l) [] (by simp) hb
  rw [TO hl e1]
  cases x <;> simpa using e2

def flat (gs : List (List aG × List aA)) : List aC := gs.flatMap fun g => eR g.1 g.2

theorem SW : ∀ (l : List aC) (r : List aG) (f : List aA), flat (gA r f l) = eR r f ++ l
  | [], r, f => by simp [gA, flat]
  | e :: l, r, f => by
    unfold gA
    split
    · rename_i h
      rw [SW l r]
      simp [eR, jE, ← h]
    · have := SW l e.Row [jE e]
      simp only [flat, List.flatMap_cons] at this ⊢
      rw [this]
      simp [eR, jE]

theorem AR (l : List aC) : flat (groups l) = l := by
  cases l with
  | nil => rfl
  | cons e l => unfold groups; rw [SW]; simp [eR, jE]

theorem WZ {r : List aG} : ∀ {l : List aC} {f : List aA} {g : List aG × List aA}, g ∈ gA r f l → f ≠ [] → g.2 ≠ [] ∧ (g.1 = r ∨ ∃ e ∈ l, g.1 = e.Row)
  | [], f, g, h, hf => by simp only [gA, List.mem_singleton] at h; subst h; exact ⟨hf, .inl rfl⟩
  | e :: l, f, g, h, hf => by
    unfold gA at h
    split at h
    · obtain ⟨h1, h2⟩ := WZ h (by simp)
      exact ⟨h1, h2.imp id fun ⟨x, hx, hx'⟩ => ⟨x, by simp [hx], hx'⟩⟩
    · rcases List.mem_cons.1 h with rfl | h
      · exact ⟨hf, .inl rfl⟩
      · obtain ⟨h1, h2⟩ := WZ (r := e.Row) h (by simp)
        refine ⟨h1, .inr ?_⟩
        rcases h2 with h2 | ⟨x, hx, hx'⟩
        · exact ⟨e, by simp, h2⟩
        · exact ⟨x, by simp [hx], hx'⟩

theorem GQ {l : List aC} {g : List aG × List aA} (h : g ∈ groups l) : g.2 ≠ [] ∧ ∃ e ∈ l, g.1 = e.Row := by
  cases l with
  | nil => simp [groups] at h
  | cons e l =>
    obtain ⟨h1, h2⟩ := WZ h (by simp)
    refine ⟨h1, ?_⟩
    rcases h2 with h2 | ⟨x, hx, hx'⟩
    · exact ⟨e, by simp, h2⟩
    · exact ⟨x, by simp [hx], hx'⟩

end Go.Abs
namespace Go.Abs
open Go
def bW (l : List aC) (r : List aG) : List aA := (l.filter fun e => decide (e.Row = r)).map jE

theorem qW (a b : List aC) (r : List aG) : bW (a ++ b) r = bW a r ++ bW b r := by simp [bW]

theorem WE (q : List aG) (f : List aA) (r : List aG) : bW (eR q f) r = if q = r then f else [] := by
  induction f with
  | nil => simp [bW, eR]
  | cons j f ih =>
    have h1 : eR q (j :: f) = [⟨q, j.At, j.Net⟩] ++ eR q f := rfl
    rw [h1, qW, ih]
    by_cases h : q = r <;> simp [bW, jE, h]

def look : List (List aG × List aA) → List aG → List aA
  | [], _ => []
  | g :: gs, r => if g.1 = r then g.2 else look gs r

theorem sU (g : List aG × List aA) (gs : List (List aG × List aA)) (r : List aG) : look (g :: gs) r = if g.1 = r then g.2 else look gs r := rfl

abbrev ltG (a b : List aG × List aA) : Prop := eB a.1 b.1 < 0

abbrev vL (gs : List (List aG × List aA)) : Prop := gs.Pairwise ltG

abbrev Full (gs : List (List aG × List aA)) : Prop := ∀ g ∈ gs, g.2 ≠ []

theorem nN {a : List aG} : ¬ eB a a < 0 := by rw [(iK.eq a a).2 rfl]; omega

theorem yL : ∀ {gs : List (List aG × List aA)} {r : List aG}, (∀ g ∈ gs, g.1 ≠ r) → look gs r = []
  | [], _, _ => rfl
  | g :: gs, r, h => by
    rw [sU]
    rw [if_neg (h g (by simp))]
    exact yL fun q hq => h q (by simp [hq])

theorem GN (gs : List (List aG × List aA)) (r : List aG) : (look gs r = [] ∧ ∀ g ∈ gs, g.1 ≠ r) ∨ ∃ g ∈ gs, g.1 = r ∧ look gs r = g.2 := by
  induction gs with
  | nil => exact .inl ⟨rfl, by simp⟩
  | cons g gs ih =>
    rw [sU]
    by_cases h : g.1 = r
    · rw [if_pos h]; exact .inr ⟨g, by simp, h, rfl⟩
    · rw [if_neg h]
      rcases ih with ⟨h1, h2⟩ | ⟨q, hq, h1, h2⟩
      · refine .inl ⟨h1, fun q hq => ?_⟩
        rcases List.mem_cons.1 hq with rfl | hq
        · exact h
        · exact h2 q hq
      · exact .inr ⟨q, by simp [hq], h1, h2⟩

theorem xP {gs : List (List aG × List aA)} (hs : vL gs) {g : List aG × List aA} (hg : g ∈ gs) : look gs g.1 = g.2 := by
  induction gs with
  | nil => simp at hg
  | cons q gs ih =>
    have hs' := List.pairwise_cons.1 hs
    rw [sU]
    rcases List.mem_cons.1 hg with rfl | hg
    · rw [if_pos rfl]
    · rw [if_neg (fun e => by have := hs'.1 g hg; simp only [ltG, e] at this; exact nN this)]
      exact ih hs'.2 hg

theorem xX (g : List aG × List aA) (gs : List (List aG × List aA)) : flat (g :: gs) = eR g.1 g.2 ++ flat gs := rfl

theorem uA : ∀ {gs : List (List aG × List aA)}, vL gs → ∀ r, bW (flat gs) r = look gs r
  | [], _, r => rfl
  | g :: gs, hs, r => by
    have hs' := List.pairwise_cons.1 hs
    rw [xX, qW, WE, uA hs'.2, sU]
    by_cases h : g.1 = r
    · rw [if_pos h, if_pos h, yL, List.append_nil]
      intro q hq e
      have := hs'.1 q hq
      simp only [ltG, h, e] at this; exact nN this
    · rw [if_neg h, if_neg h]; rfl

theorem aAZ : ∀ {gs hs : List (List aG × List aA)}, vL gs → vL hs → Full gs → Full hs → (∀ r, look gs r = look hs r) → gs = hs
  | [], [], _, _, _, _, _ => rfl
  | [], h :: hs, _, _, _, fh, he => by
    have := he h.1
    simp only [sU, look, if_true] at this
    exact absurd this.symm (fh h (by simp))
  | g :: gs, [], _, _, fg, _, he => by
    have := he g.1
    simp only [sU, look, if_true] at this
    exact absurd this (fg g (by simp))
  | g :: gs, h :: hs, sg, sh, fg, fh, he => by
    have sg' := List.pairwise_cons.1 sg
    have sh' := List.pairwise_cons.1 sh
    by_cases e : g.1 = h.1
    · have h2 := he g.1
      simp only [look, if_true, if_pos e.symm] at h2
      have ht : gs = hs := aAZ sg'.2 sh'.2 (fun q hq => fg q (by simp [hq])) (fun q hq => fh q (by simp [hq])) fun r => by
        by_cases hr : g.1 = r
        · subst hr
          rw [yL (gs := gs), yL (gs := hs)]
          · intro q hq e'; have := sh'.1 q hq; simp only [ltG, ← e, e'] at this; exact nN this
          · intro q hq e'; have := sg'.1 q hq; simp only [ltG, e'] at this; exact nN this
        · have := he r
          simp only [look, if_neg hr, if_neg (fun x => hr (e.trans x))] at this
          exact this
      rw [ht]
      obtain ⟨g1, g2⟩ := g
      obtain ⟨h1, h3⟩ := h
      simp only at e h2
      rw [e, h2]
    · exfalso
      have hne : eB g.1 h.1 ≠ 0 := fun x => e ((iK.eq _ _).1 x)
      by_cases hlt : eB g.1 h.1 < 0
      · have h2 := he g.1
        rw [xP sg (by simp), yL] at h2
        · exact fg g (by simp) h2
        · intro q hq e'
          rcases List.mem_cons.1 hq with rfl | hq
          · exact e e'.symm
          · have := iK.trans _ _ _ hlt (sh'.1 q hq)
            rw [e'] at this; exact nN this
      · have hlt' : eB h.1 g.1 < 0 := (iK.anti _ _).2 (by omega)
        have h2 := he h.1
        rw [xP sh (by simp), yL] at h2
        · exact fh h (by simp) h2.symm
        · intro q hq e'
          rcases List.mem_cons.1 hq with rfl | hq
          · exact e e'
          · have := iK.trans _ _ _ hlt' (sg'.1 q hq)
            rw [e'] at this; exact nN this

theorem yV {p : List aA → Bool} : ∀ {gs : List (List aG × List aA)} {last : Option (List aG)}, BQ p last gs = true ↔ (∀ g ∈ gs, fC g.1 = true ∧ p g.2 = true) ∧ vL gs ∧ (∀ q, last = some q → ∀ g ∈ gs, eB q g.1 < 0)
  | [], last => by simp [BQ]
  | g :: gs, last => by
    unfold BQ
    simp only [Bool.and_eq_true, yV (gs := gs), List.mem_cons, List.pairwise_cons]
    constructor
    · rintro ⟨⟨⟨h1, h2⟩, h3⟩, h4, h5, h6⟩
      refine ⟨?_, ⟨fun q hq => h6 _ rfl q hq, h5⟩, ?_⟩
      · rintro q (rfl | hq)
        · exact ⟨h1, h3⟩
        · exact h4 q hq
      · rintro q rfl x (rfl | hx)
        · simpa [ahd] using h2
        · simp only [ahd, decide_eq_true_eq] at h2
          exact iK.trans _ _ _ h2 (h6 _ rfl x hx)
    · rintro ⟨h1, ⟨h2, h3⟩, h4⟩
      refine ⟨⟨⟨(h1 g (.inl rfl)).1, ?_⟩, (h1 g (.inl rfl)).2⟩, fun q hq => h1 q (.inr hq), h3, ?_⟩
      · unfold ahd
        split
        · rfl
        · exact decide_eq_true (h4 _ rfl g (.inl rfl))
      · rintro q hq x hx
        cases hq
        exact h2 x hx

theorem aAI (l : List aC) : Full (groups l) := fun _ hg => (GQ hg).1

theorem qX {l : List aC} (h : oJ l = true) : l.length ≤ 4096 ∧ (∀ g ∈ groups l, fC g.1 = true ∧ fL g.2 = true) ∧ vL (groups l) := by
  simp only [oJ, Bool.and_eq_true, decide_eq_true_eq] at h
  obtain ⟨h1, h2, _⟩ := yV.1 h.2
  exact ⟨h.1, h1, h2⟩

theorem aCS {l : List aC} (h : oJ l = true) (r : List aG) : fL (look (groups l) r) = true := by
  rcases GN (groups l) r with ⟨h1, _⟩ | ⟨g, hg, _, h1⟩
  · rw [h1]; exact aEx
  · rw [h1]; exact ((qX h).2.1 g hg).2

theorem nO {l : List aC} (h : vL (groups l)) (r : List aG) : look (groups l) r = bW l r := by
  rw [← uA h, AR]

theorem TE (r : List aG) (f : List aA) (e : aC) (l : List aC) : gA r f (e :: l) = if e.Row = r then gA r (f ++ [jE e]) l else (r, f) :: gA e.Row [jE e] l := rfl

theorem XR (r : List aG) : ∀ (f2 f : List aA) (l : List aC), gA r f (eR r f2 ++ l) = gA r (f ++ f2) l
  | [], f, l => by simp [eR]
  | j :: f2, f, l => by
    show gA r f (⟨r, j.At, j.Net⟩ :: (eR r f2 ++ l)) = _
    rw [TE, if_pos rfl, XR r f2]
    simp [jE]

theorem VE : ∀ {gs : List (List aG × List aA)}, vL gs → Full gs → groups (flat gs) = gs
  | [], _, _ => rfl
  | (r, f) :: gs, hs, hf => by
    have hs' := List.pairwise_cons.1 hs
    have hne := hf (r, f) (by simp)
    have ih := VE hs'.2 (fun g hg => hf g (by simp [hg]))
    cases f with
    | nil => exact absurd rfl hne
    | cons j f =>
      rw [xX]
      show gA r [jE ⟨r, j.At, j.Net⟩] (eR r f ++ flat gs) = _
      rw [XR]
      have key : ∀ (F : List aA), gA r F (flat gs) = (r, F) :: groups (flat gs) := by
        intro F
        cases gs with
        | nil => rfl
        | cons g gs =>
          obtain ⟨q, f'⟩ := g
          have hq := hf (q, f') (by simp)
          cases f' with
          | nil => exact absurd rfl hq
          | cons j' f' =>
            have hqr : q ≠ r := fun e => by
              have := hs'.1 (q, j' :: f') (by simp)
              simp only [ltG, e] at this; exact nN this
            rw [xX]
            show gA r F (⟨q, j'.At, j'.Net⟩ :: (eR q f' ++ flat gs)) = _
            rw [gA, if_neg hqr]
            rfl
      rw [key, ih]
      rfl

def IU (gs : List (List aG × List aA)) : List (List aG × List aA) := gs.filter fun g => !g.2.isEmpty

theorem CS : ∀ (gs : List (List aG × List aA)), flat (IU gs) = flat gs
  | [] => rfl
  | (r, []) :: gs => by
    have : IU ((r, []) :: gs) = IU gs := rfl
    rw [this, CS gs, xX]; rfl
  | (r, j :: f) :: gs => by
    have : IU ((r, j :: f) :: gs) = (r, j :: f) :: IU gs := rfl
    rw [this, xX, xX, CS gs]

theorem VQ (gs : List (List aG × List aA)) : Full (IU gs) := by
  intro g hg
  have := (List.mem_filter.1 hg).2
  intro h; rw [h] at this; simp at this

theorem IJ {gs : List (List aG × List aA)} (hs : vL gs) : groups (flat gs) = IU gs := by
  rw [← CS]
  exact VE (hs.filter _) (VQ gs)

theorem aB8 {gs : List (List aG × List aA)} (hs : vL gs) (r : List aG) : look (groups (flat gs)) r = look gs r := by
  have h1 := uA (gs := IU gs) (hs.filter _) r
  rw [IJ hs, ← h1, ← uA hs, CS]

theorem aCz {gs : List (List aG × List aA)} (hs : vL gs) (hm : ∀ g ∈ gs, fC g.1 = true ∧ fL g.2 = true) (hl : (flat gs).length ≤ 4096) : oJ (flat gs) = true := by
  simp only [oJ, Bool.and_eq_true, decide_eq_true_eq]
  refine ⟨hl, yV.2 ?_⟩
  rw [IJ hs]
  exact ⟨fun g hg => hm g (List.mem_filter.1 hg).1, hs.filter _, by simp⟩

def zW (by1 : List aA → List aA × Int) (gs : List (List aG × List aA)) : List (List aG × List aA) := gs.map fun g => (g.1, (by1 g.2).1)

theorem QL {by1 : List aA → List aA × Int} {gs : List (List aG × List aA)} (hs : vL gs) : vL (zW by1 gs) := by
  rw [vL, zW, List.pairwise_map]; exact hs

theorem MK {by1 : List aA → List aA × Int} (h0 : (by1 []).1 = []) : ∀ (gs : List (List aG × List aA)) (r : List aG), look (zW by1 gs) r = (by1 (look gs r)).1
  | [], r => h0.symm
  | g :: gs, r => by
    show look ((g.1, (by1 g.2).1) :: zW by1 gs) r = _
    rw [sU, sU]
    by_cases h : g.1 = r
    · rw [if_pos h, if_pos h]
    · rw [if_neg h, if_neg h]; exact MK h0 gs r

theorem aAX {by1 : List aA → List aA × Int} : ∀ {gs : List (List aG × List aA)} {out : List aC}, out.length ≤ 4096 → (rH by1 gs out).2 = 0 → (∀ g ∈ gs, (by1 g.2).2 = 0) ∧ (rH by1 gs out).1 = out ++ flat (zW by1 gs) ∧ (rH by1 gs out).1.length ≤ 4096
  | [], out, ho, _ => by simp [rH, zW, flat, ho]
  | g :: gs, out, ho, h => by
    unfold rH at h ⊢
    by_cases e1 : (by1 g.2).2 = 0
    · rw [if_neg (by simp [e1])] at h ⊢
      by_cases e2 : 4096 < (out ++ eR g.1 (by1 g.2).1).length
      · rw [if_pos e2] at h; simp at h
      · rw [if_neg e2] at h ⊢
        obtain ⟨h1, h2, h3⟩ := aAX (by omega) h
        refine ⟨?_, ?_, h3⟩
        · intro q hq
          rcases List.mem_cons.1 hq with rfl | hq
          · exact e1
          · exact h1 q hq
        · rw [h2]; simp [zW, xX]
    · rw [if_pos e1] at h; exact absurd h e1

theorem ZW {by1 : List aA → List aA × Int} : ∀ {gs : List (List aG × List aA)} {out : List aC}, (∀ g ∈ gs, (by1 g.2).2 = 0) → (out ++ flat (zW by1 gs)).length ≤ 4096 → rH by1 gs out = (out ++ flat (zW by1 gs), 0)
  | [], out, _, _ => by simp [rH, zW, flat]
  | g :: gs, out, h, hl => by
    unfold rH
    have hf : flat (zW by1 (g :: gs)) = eR g.1 (by1 g.2).1 ++ flat (zW by1 gs) := rfl
    rw [hf] at hl ⊢
    rw [if_neg (by simp [h g (by simp)]), if_neg (by simp only [List.length_append] at hl ⊢; omega), ZW (fun q hq => h q (by simp [hq])) (by simpa using hl)]
    simp

theorem ZE {by1 : List aA → List aA × Int} : ∀ {gs : List (List aG × List aA)} {out : List aC}, (rH by1 gs out).2 ≠ 0 → (rH by1 gs out).1 = []
  | [], out, h => by simp [rH] at h
  | g :: gs, out, h => by
    unfold rH at h ⊢
    split
    · rfl
    · rename_i e1
      rw [if_neg e1] at h
      split
      · rfl
      · rename_i e2
        rw [if_neg e2] at h
        exact ZE h

theorem US {l : List aC} (hl : okL l) {g : List aG × List aA} (hg : g ∈ groups l) : g.1.length ≤ 4398046510976 := by
  obtain ⟨_, e, he, h⟩ := GQ hg
  rw [h]; exact hl.2 e he

theorem aAy {f g : List aC} (hl : okL f) : xQ f g = some (decide (f = g)) := by
  unfold xQ
  by_cases he : f.length = g.length
  · rw [NC he, cond_false]
    unfold BX
    have := OD (f := f) (g := g) (body := fun s => sF f g s) he ?_ ?_ f.length 0 rfl (Nat.zero_le _)
    · simp only [Int.natCast_zero, List.drop_zero] at this
      rw [this]
      by_cases h : f = g <;> simp [h, wJ]
    · intro i x y hx hy
      have hll := hl.1
      obtain ⟨d1, d2, d3, d4⟩ := idx hx (by omega)
      obtain ⟨_, e2, e3, _⟩ := idx hy (by omega)
      have hr := hl.2 x (List.mem_of_getElem? hx)
      simp only [sF, d1, cond_true, aX d2, aX e2, d3, e3, d4, cP]
      rw [aX (fun _ => d2), aX (fun _ => e2), aX (fun _ => d2), aX (fun _ => e2), AU x.Row y.Row (by omega)]
      obtain ⟨x1, x2, x3⟩ := x
      obtain ⟨y1, y2, y3⟩ := y
      by_cases h1 : x2 = y2 <;> by_cases h2 : x3 = y3 <;> by_cases h3 : x1 = y1 <;> simp [h1, h2, h3]
    · simp only [sF, cY, cond_false]
  · rw [MC he, cond_true]
    have : f ≠ g := fun h => he (by rw [h])
    simp [this]

end Go.Abs
namespace Go.Abs
theorem aCY : @dY = @pF aC _ := rfl

theorem aBM : @eG = @eK aC _ := rfl

theorem YB (cmp) : ∀ k, @iE cmp k = @eP aC _ cmp k
  | 0 => rfl
  | k + 1 => by
    show eG cmp _ = eK cmp _
    rw [YB cmp k, aBM]

theorem aC0 : @fA = @qS aC _ := by
  funext d a m b cmp
  unfold fA qS
  simp only [YB]

theorem XH : @fV = @CL aC _ := by
  funext d n cmp
  unfold fV CL jD FI
  unfold jF nG fN FF
  unfold iT FA jH kJ
  unfold iY AL iO nF
  unfold fI AS
  rw [aC0, aCY]
  rfl

end Go.Abs
namespace Go.Abs
open Go
theorem MT {l : List aC} {f : aC → Option Bool} {g : aC → Bool} (hl : l.length ≤ 1099511627776) (hf : ∀ x ∈ l, f x = some (g x)) : dI l f = some (l.any g) := by
  unfold dI gI gE
  obtain ⟨x, e, hx⟩ := HG hl hf l 0 rfl (Nat.zero_le _)
  have e' : lp (fun s => gF f l (l.length : Nat) s) 0 = some x := e
  rw [e']
  rcases hx with ⟨rfl, h⟩ | ⟨i, rfl, _, _, h, _⟩
  · simp [eD, h]
  · simp [h]

def unE (e : aC) : Bool := ((!fC e.Row) || (decide ((1048576 : Int) < e.Net))) || (decide (e.Net < (-1048576 : Int)))

def CX (e : aC) : Bool := (decide (e.At < (-1 : Int))) || (decide ((1125899906842624 : Int) < e.At))

def aBx (x y : aC) : Int := if eB x.Row y.Row ≠ 0 then eB x.Row y.Row else oM x.At y.At

abbrev okE (x : aC) : Prop := fC x.Row = true

abbrev leE (x y : aC) : Prop := eB x.Row y.Row < 0 ∨ (x.Row = y.Row ∧ x.At ≤ y.At)

theorem or_eq (a b : Int) : yO [a, b] = some (if a ≠ 0 then a else b) := by
  unfold yO BS
  have w1 : IntKind.i64.wrap (1 : Int) = 1 := by rw [dW] <;> omega
  have w2 : IntKind.i64.wrap (2 : Int) = 2 := by rw [dW] <;> omega
  have b0 : (fun s => iH 0 [a, b] (([a, b] : List Int).length : Nat) s) (0 : Int) = some (if a ≠ 0 then .inr (.inr a) else .inl 1) := by
    show iH _ _ _ _ = _
    unfold iH
    rw [aX ⟨by omega, by simp⟩]
    by_cases h : a = 0 <;> simp [h, w1]
  have b1 : (fun s => iH 0 [a, b] (([a, b] : List Int).length : Nat) s) (1 : Int) = some (if b ≠ 0 then .inr (.inr b) else .inl 2) := by
    show iH _ _ _ _ = _
    unfold iH
    rw [aX ⟨by omega, by simp⟩]
    by_cases h : b = 0 <;> simp [h, w2]
  have b2 : (fun s => iH 0 [a, b] (([a, b] : List Int).length : Nat) s) (2 : Int) = some (.inr (.inl ())) := by
    show iH _ _ _ _ = _
    unfold iH
    simp
  by_cases h : a = 0
  · rw [if_neg (by simp [h])] at b0
    rw [dQ b0]
    by_cases h2 : b = 0
    · rw [if_neg (by simp [h2])] at b1
      rw [dQ b1, cT b2]
      simp [vQ, h, h2]
    · rw [if_pos h2] at b1
      rw [cT b1]
      simp [h]
  · rw [if_pos h] at b0
    rw [cT b0]
    simp [h]

theorem aEl {x y : aC} (hx : okE x) (hy : okE y) : nT x y = some (aBx x y) := by
  unfold nT aBx
  rw [UN, hx, hy]
  simp only [Bool.and_self, if_true, Option.bind_some, UX, or_eq]

theorem aD6 (x y : aC) : aBx x y < 0 ↔ ¬ leE y x := by
  unfold aBx leE
  have ha := iK.anti x.Row y.Row
  have hb := iK.anti y.Row x.Row
  have he := iK.eq x.Row y.Row
  by_cases h : eB x.Row y.Row = 0
  · rw [if_neg (by simp [h])]
    have e := he.1 h
    have : ¬ eB y.Row x.Row < 0 := by rw [e]; exact nN
    unfold oM
    constructor
    · intro h1 h2
      rcases h2 with h2 | ⟨_, h2⟩
      · exact this h2
      · split at h1
        · omega
        · split at h1 <;> omega
    · intro h1
      have : ¬ y.At ≤ x.At := fun h2 => h1 (.inr ⟨e.symm, h2⟩)
      rw [if_pos (by omega)]; omega
  · rw [if_pos h]
    have hne : y.Row ≠ x.Row := fun e => h (he.2 e.symm)
    constructor
    · intro h1 h2
      rcases h2 with h2 | ⟨h2, _⟩
      · have := hb.1 h2; omega
      · exact hne h2
    · intro h1
      have : ¬ eB y.Row x.Row < 0 := fun h2 => h1 (.inl h2)
      rw [hb] at this
      omega

theorem aCv (x y : aC) : leE x y ∨ leE y x := by
  unfold leE
  by_cases h : eB x.Row y.Row = 0
  · have e := (iK.eq _ _).1 h
    rcases Int.le_total x.At y.At with h1 | h1
    · exact .inl (.inr ⟨e, h1⟩)
    · exact .inr (.inr ⟨e.symm, h1⟩)
  · by_cases h1 : eB x.Row y.Row < 0
    · exact .inl (.inl h1)
    · exact .inr (.inl ((iK.anti _ _).2 (by omega)))

theorem aCc {x y z : aC} (h1 : leE x y) (h2 : leE y z) : leE x z := by
  rcases h1 with h1 | ⟨e1, h1⟩ <;> rcases h2 with h2 | ⟨e2, h2⟩
  · exact .inl (iK.trans _ _ _ h1 h2)
  · exact .inl (e2 ▸ h1)
  · exact .inl (e1.symm ▸ h2)
  · exact .inr ⟨e1.trans e2, by omega⟩

theorem aFt : Cmp okE leE (fun y0 y1 => nT y0 y1) where
  ans x y hx hy := ⟨_, aEl hx hy, aD6 x y⟩
  trans x y z _ _ _ h1 h2 := aCc h1 h2
  total x y _ _ := aCv x y

theorem aFh {l : List aC} (hl : l.length ≤ 1099511627776) (ho : ∀ e ∈ l, okE e) : ∃ r, r.Perm l ∧ Srt leE r ∧ dO l (fun y0 y1 => nT y0 y1) = some r := by
  obtain ⟨r, r1, r2, r3⟩ := UQ aFt (d := l) ho hl
  refine ⟨r, r1, r2, ?_⟩
  unfold dO
  rw [XH, r3]; rfl

theorem WT : ∀ {l : List aC} {r : List aG} {f : List aA}, Srt leE l → (∀ e ∈ l, e.Row = r ∨ eB r e.Row < 0) → vL (gA r f l) ∧ ∀ g ∈ gA r f l, g.1 = r ∨ eB r g.1 < 0
  | [], r, f, _, _ => by simp [gA]
  | e :: l, r, f, hs, hr => by
    have hs' := List.pairwise_cons.1 hs
    rw [TE]
    by_cases h : e.Row = r
    · rw [if_pos h]
      exact WT hs'.2 (fun x hx => hr x (by simp [hx]))
    · rw [if_neg h]
      have hlt : eB r e.Row < 0 := (hr e (by simp)).resolve_left h
      obtain ⟨h1, h2⟩ := WT (r := e.Row) (f := [jE e]) hs'.2 (fun x hx => by
        rcases hs'.1 x hx with h | ⟨h, _⟩
        · exact .inr h
        · exact .inl h.symm)
      have key : ∀ g ∈ gA e.Row [jE e] l, eB r g.1 < 0 := fun g hg => by
        rcases h2 g hg with h | h
        · rw [h]; exact hlt
        · exact iK.trans _ _ _ hlt h
      refine ⟨List.pairwise_cons.2 ⟨key, h1⟩, ?_⟩
      intro g hg
      rcases List.mem_cons.1 hg with rfl | hg
      · exact .inl rfl
      · exact .inr (key g hg)

theorem vC {l : List aC} (hs : Srt leE l) : vL (groups l) := by
  cases l with
  | nil => exact List.Pairwise.nil
  | cons e l =>
    have hs' := List.pairwise_cons.1 hs
    exact (WT hs'.2 (fun x hx => by
      rcases hs'.1 x hx with h | ⟨h, _⟩
      · exact .inr h
      · exact .inl h.symm)).1

abbrev KR (rs : List (List aG)) : Prop := rs.Pairwise fun a b => eB a b < 0

def tG (r : List aG) : List (List aG) → List (List aG)
  | [] => [r]
  | x :: xs => if eB x r < 0 then x :: tG r xs else if x = r then x :: xs else r :: x :: xs

def rowsOf (l : List aC) : List (List aG) := l.foldl (fun rs e => tG e.Row rs) []

theorem KW {r x : List aG} : ∀ {rs : List (List aG)}, x ∈ tG r rs ↔ x = r ∨ x ∈ rs
  | [] => by simp [tG]
  | y :: ys => by
    unfold tG
    split
    · simp only [List.mem_cons, KW (rs := ys)]
      constructor
      · rintro (h | h | h)
        · exact .inr (.inl h)
        · exact .inl h
        · exact .inr (.inr h)
      · rintro (h | h | h)
        · exact .inr (.inl h)
        · exact .inl h
        · exact .inr (.inr h)
    · split
      · rename_i h; subst h; simp
      · simp

theorem aAb {r : List aG} : ∀ {rs : List (List aG)}, KR rs → KR (tG r rs)
  | [], _ => by simp [tG]
  | y :: ys, hs => by
    have hs' := List.pairwise_cons.1 hs
    unfold tG
    split
    · rename_i h
      refine List.pairwise_cons.2 ⟨fun z hz => ?_, aAb hs'.2⟩
      rcases KW.1 hz with rfl | hz
      · exact h
      · exact hs'.1 z hz
    · rename_i h
      split
      · exact hs
      · rename_i hne
        have hlt : eB r y < 0 := by
          have h0 : eB y r ≠ 0 := fun e => hne ((iK.eq _ _).1 e)
          exact (iK.anti _ _).2 (by omega)
        refine List.pairwise_cons.2 ⟨fun z hz => ?_, hs⟩
        rcases List.mem_cons.1 hz with rfl | hz
        · exact hlt
        · exact iK.trans _ _ _ hlt (hs'.1 z hz)

theorem LY : ∀ (l : List aC) (rs : List (List aG)), KR rs → KR (l.foldl (fun rs e => tG e.Row rs) rs) ∧ ∀ x, x ∈ l.foldl (fun rs e => tG e.Row rs) rs ↔ x ∈ rs ∨ ∃ e ∈ l, e.Row = x
  | [], rs, hs => ⟨hs, by simp⟩
  | e :: l, rs, hs => by
    obtain ⟨h1, h2⟩ := LY l (tG e.Row rs) (aAb hs)
    refine ⟨h1, fun x => ?_⟩
    simp only [List.foldl_cons]
    rw [h2 x, KW]
    simp only [List.mem_cons, exists_eq_or_imp]
    constructor
    · rintro ((h | h) | h)
      · exact .inr (.inl h.symm)
      · exact .inl h
      · exact .inr (.inr h)
    · rintro (h | h | h)
      · exact .inl (.inr h)
      · exact .inl (.inl h.symm)
      · exact .inr h

theorem KK (l : List aC) : KR (rowsOf l) := (LY l [] List.Pairwise.nil).1

theorem sR {l : List aC} {x : List aG} : x ∈ rowsOf l ↔ ∃ e ∈ l, e.Row = x := by
  have := (LY l [] List.Pairwise.nil).2 x
  simpa [rowsOf] using this

theorem YZ : ∀ {a b : List (List aG)}, KR a → KR b → (∀ x, x ∈ a ↔ x ∈ b) → a = b
  | [], [], _, _, _ => rfl
  | [], y :: ys, _, _, h => absurd ((h y).2 (by simp)) (by simp)
  | x :: xs, [], _, _, h => absurd ((h x).1 (by simp)) (by simp)
  | x :: xs, y :: ys, ha, hb, h => by
    have ha' := List.pairwise_cons.1 ha
    have hb' := List.pairwise_cons.1 hb
    have e : x = y := by
      rcases List.mem_cons.1 ((h x).1 (by simp)) with h1 | h1
      · exact h1
      · rcases List.mem_cons.1 ((h y).2 (by simp)) with h2 | h2
        · exact h2.symm
        · exact absurd (iK.trans _ _ _ (hb'.1 x h1) (ha'.1 y h2)) nN
    subst e
    rw [YZ ha'.2 hb'.2 fun z => ?_]
    constructor
    · intro hz
      rcases List.mem_cons.1 ((h z).1 (by simp [hz])) with h1 | h1
      · subst h1; exact absurd (ha'.1 z hz) nN
      · exact h1
    · intro hz
      rcases List.mem_cons.1 ((h z).2 (by simp [hz])) with h1 | h1
      · subst h1; exact absurd (hb'.1 z hz) nN
      · exact h1

def rY (l : List aC) : List (List aG × List aA) := (rowsOf l).map fun r => (r, bW l r)

theorem PZ (l : List aC) : vL (rY l) := by
  rw [vL, rY, List.pairwise_map]; exact KK l

theorem PC {l : List aC} {r : List aG} (h : ∀ e ∈ l, e.Row ≠ r) : bW l r = [] := by
  unfold bW
  rw [List.map_eq_nil_iff, List.filter_eq_nil_iff]
  intro e he
  simpa using h e he

theorem IA (l : List aC) (r : List aG) : look (rY l) r = bW l r := by
  rcases GN (rY l) r with ⟨h1, h2⟩ | ⟨g, hg, h1, h2⟩
  · rw [h1, PC]
    intro e he hr
    have : (r, bW l r) ∈ rY l := List.mem_map.2 ⟨r, sR.2 ⟨e, he, hr⟩, rfl⟩
    exact h2 _ this rfl
  · rw [h2]
    obtain ⟨q, _, rfl⟩ := List.mem_map.1 hg
    simp only at h1
    rw [h1]

theorem YY {a b : List aC} (h : a.Perm b) (r : List aG) : (bW a r).Perm (bW b r) := (h.filter _).map _

theorem PM {l l' : List aC} (hp : l'.Perm l) (hs : Srt leE l') : (groups l').map (·.1) = rowsOf l := by
  refine YZ ?_ (KK l) fun x => ?_
  · rw [KR, List.pairwise_map]; exact vC hs
  · rw [sR]
    constructor
    · intro h
      obtain ⟨g, hg, rfl⟩ := List.mem_map.1 h
      obtain ⟨_, e, he, h1⟩ := GQ hg
      exact ⟨e, hp.mem_iff.1 he, h1.symm⟩
    · rintro ⟨e, he, rfl⟩
      have he' : e ∈ flat (groups l') := by rw [AR]; exact hp.mem_iff.2 he
      obtain ⟨g, hg, h1⟩ := List.mem_flatMap.1 he'
      obtain ⟨j, _, rfl⟩ := List.mem_map.1 h1
      exact List.mem_map.2 ⟨g, hg, rfl⟩

theorem KO {l : List aA} (ht : ∀ j ∈ l, -2 < j.At) : Up (-2) (AY l) :=
  JY (by rw [List.map_map]; simpa [Function.comp_def] using NO ht)

theorem NS {l : List aA} (ht : ∀ j ∈ l, -2 < j.At) {t : Int} (h1 : -2 < t) (h2 : t < 1125899906842624) : val (AY l) t = val l t := by
  have h0 : val l (-2) = 0 := CR fun j hj => ht j hj
  have := NR (F := val l) (NO ht) (fun s t' _ hst hlt hn => HW hst fun j hj hc => hn j.At (PU.2 (Or.inr ⟨j, List.mem_filter.2 ⟨hj, by simp; omega⟩, rfl⟩)) hc) t (by omega) h2
  rw [h0] at this
  unfold AY
  rw [this]; omega

theorem aBD {f g : List aA} (h : f.Perm g) (hf : f.any uI = false) : AY f = AY g := by
  have hg : ∀ j ∈ g, -2 < j.At := fun j hj => (EM hf j (h.mem_iff.2 hj)).1
  exact QU (fun j hj => (EM hf j hj).1) (KO hg) fun t h1 h2 => by rw [NS hg h1 h2, aAa h]

theorem PX {f g : List aA} (h : f.Perm g) (p : aA → Bool) : f.any p = g.any p := by
  cases h1 : g.any p
  · rw [List.any_eq_false] at h1 ⊢
    exact fun x hx => h1 x (h.mem_iff.1 hx)
  · obtain ⟨x, hx, hp⟩ := List.any_eq_true.1 h1
    exact List.any_eq_true.2 ⟨x, h.mem_iff.2 hx, hp⟩

theorem aBH {f g : List aA} (h : f.Perm g) : fR f = fR g := by
  unfold fR
  rw [PX h qJ, PX h uI]
  split
  · rfl
  · split
    · rfl
    · rename_i h2
      rw [aBD h (by rw [PX h uI]; simpa using h2)]

theorem MS (l : List aA) : (fR l).1.length ≤ 1024 := by
  unfold fR
  split
  · simp
  · split
    · simp
    · exact aDx _

theorem RK {by1 : List aA → List aA × Int} : ∀ {gs hs : List (List aG × List aA)} {out : List aC}, gs.map (fun g => (g.1, by1 g.2)) = hs.map (fun g => (g.1, by1 g.2)) → rH by1 gs out = rH by1 hs out
  | [], [], _, _ => rfl
  | [], _ :: _, _, h => by simp at h
  | _ :: _, [], _, h => by simp at h
  | g :: gs, k :: hs, out, h => by
    simp only [List.map_cons, List.cons.injEq, Prod.mk.injEq] at h
    obtain ⟨⟨h1, h2⟩, h3⟩ := h
    unfold rH
    rw [h1, h2]
    split
    · rfl
    · split
      · rfl
      · exact RK h3

theorem aAg {l l' : List aC} (hp : l'.Perm l) (hs : Srt leE l') : (groups l').map (fun g => (g.1, fR g.2)) = (rY l).map (fun g => (g.1, fR g.2)) := by
  have h1 : (groups l').map (fun g => (g.1, fR g.2)) = ((groups l').map (·.1)).map (fun r => (r, fR (bW l r))) := by
    rw [List.map_map]
    apply List.map_congr_left
    intro g hg
    have hj : g.2 = bW l' g.1 := by rw [← nO (vC hs), xP (vC hs) hg]
    simp only [Function.comp]
    rw [hj, aBH (YY hp g.1)]
  rw [h1, PM hp hs, rY, List.map_map]
  rfl

def kC (l : List aC) : List aC × Int := if l.any unE then ([], 2) else if l.any CX then ([], 13) else rH fR (rY l) []

theorem JQ {l : List aC} (h : l.any unE = false) : ∀ e ∈ l, fC e.Row = true ∧ e.Net ≤ 1048576 ∧ -1048576 ≤ e.Net := by
  intro e he
  have := List.any_eq_false.1 h e he
  simp only [unE, Bool.or_eq_true, not_or, Bool.not_eq_true', decide_eq_true_eq, Bool.not_eq_false, Bool.not_eq_true] at this
  exact ⟨by simpa using this.1.1, by omega, by omega⟩

theorem aC9 {l : List aC} (hl : okL l) (hn : l.length ≤ 1099511627776) : AM l = some (kC l) := by
  unfold AM kC
  rw [MT (g := unE) hn (fun x _ => by simp [wF, JF, unE])]
  simp only [Option.bind_some]
  cases h1 : l.any unE
  · rw [MT (f := fun y0 => wA y0) (g := CX) hn (fun x _ => rfl)]
    simp only [cond_false, Option.bind_some, Bool.false_eq_true, if_false]
    cases h2 : l.any CX
    · simp only [cond_false, Bool.false_eq_true, if_false]
      have hc : fK l = some l := by unfold fK; exact aX ⟨by omega, by omega⟩
      obtain ⟨r, r1, r2, r3⟩ := aFh hn (fun e he => (JQ h1 e he).1)
      rw [hc]
      simp only [Option.bind_some]
      rw [r3]
      simp only [Option.bind_some]
      have hr : okL r := ⟨by rw [r1.length_eq]; exact hl.1, fun e he => hl.2 e (r1.mem_iff.1 he)⟩
      rw [aCU hr (by1 := fR) (fun g hg => ⟨by
        unfold wH
        have hgl : g.2.length ≤ 1099511627776 := by
          have h3 : g.2 = bW r g.1 := by rw [← nO (vC r2), xP (vC r2) hg]
          rw [h3, bW, List.length_map]
          exact Nat.le_trans (List.length_filter_le _ _) (by rw [r1.length_eq]; exact hn)
        rw [norm_eq hgl]; rfl, MS _, US hr hg⟩)]
      simp only [Option.bind_some]
      rw [RK (aAg r1 r2)]
    · simp
  · simp

theorem UR : fR [] = ([], 0) := rfl

theorem JZ {l : List aC} (h : (kC l).2 = 0) : l.any unE = false ∧ l.any CX = false ∧ (∀ g ∈ rY l, (fR g.2).2 = 0) ∧ (kC l).1 = flat (zW fR (rY l)) ∧ (kC l).1.length ≤ 4096 := by
  unfold kC at h ⊢
  cases h1 : l.any unE
  · rw [h1] at h
    simp only [Bool.false_eq_true, if_false] at h ⊢
    cases h2 : l.any CX
    · rw [h2] at h
      simp only [Bool.false_eq_true, if_false] at h ⊢
      obtain ⟨a, b, c⟩ := aAX (by simp) h
      exact ⟨trivial, trivial, a, by simpa using b, c⟩
    · rw [h2] at h; simp at h
  · rw [h1] at h; simp at h

theorem aBR {l : List aC} (h : (kC l).2 = 0) (r : List aG) : look (groups (kC l).1) r = (fR (bW l r)).1 := by
  obtain ⟨_, _, _, h4, _⟩ := JZ h
  rw [h4, aB8 (QL (PZ l)), MK (by rw [UR]), IA]

theorem PV {f : List aA} (h : (fR f).2 = 0) : f.any qJ = false ∧ f.any uI = false ∧ fL (AY f) = true ∧ fR f = (AY f, 0) := by
  unfold fR at h ⊢
  cases h1 : f.any qJ
  · rw [h1] at h
    simp only [Bool.false_eq_true, if_false] at h ⊢
    cases h2 : f.any uI
    · rw [h2] at h
      simp only [Bool.false_eq_true, if_false] at h ⊢
      unfold told at h ⊢
      cases h3 : fL (AY f)
      · rw [h3] at h; simp at h
      · simp
    · rw [h2] at h; simp at h
  · rw [h1] at h; simp at h

theorem UT {l : List aC} (h : (kC l).2 = 0) (r : List aG) : (fR (bW l r)).2 = 0 := by
  obtain ⟨_, _, h3, _, _⟩ := JZ h
  rcases GN (rY l) r with ⟨e, _⟩ | ⟨g, hg, _, e⟩
  · rw [IA] at e; rw [e]; rfl
  · rw [IA] at e; rw [e]; exact h3 g hg

theorem VA {l : List aC} (h : (kC l).2 = 0) : oJ (kC l).1 = true := by
  obtain ⟨h1, _, h3, h4, h5⟩ := JZ h
  rw [h4] at h5 ⊢
  refine aCz (QL (PZ l)) (fun g hg => ?_) h5
  obtain ⟨q, hq, rfl⟩ := List.mem_map.1 hg
  have h6 := PV (h3 q hq)
  obtain ⟨r, hr, rfl⟩ := List.mem_map.1 hq
  obtain ⟨e, he, rfl⟩ := sR.1 hr
  exact ⟨(JQ h1 e he).1, by rw [h6.2.2.2]; exact h6.2.2.1⟩

theorem aB1 {l : List aC} (h : (kC l).2 ≠ 0) : (kC l).1 = [] := by
  unfold kC at h ⊢
  split
  · rfl
  · rename_i h1
    rw [if_neg h1] at h
    split
    · rfl
    · rename_i h2
      rw [if_neg h2] at h
      exact ZE h

end Go.Abs
namespace Go.Abs
open Go
def OC (s : aT) : Bool := (decide (0 ≤ s.From) && decide (s.From ≤ 1125899906842624)) && (decide (0 ≤ s.To) && decide (s.To ≤ 1125899906842624)) && decide (s.From < s.To)

theorem aBB (s : aT) : DM s = some (OC s) := by
  unfold DM AK OC
  simp only [Option.bind_some]
  cases h : (decide (0 ≤ s.From) && decide (s.From ≤ 1125899906842624)) <;> simp [cP]

end Go.Abs
namespace Go.Abs
open Go
theorem SY : okL [] := ⟨by simp, by simp⟩

theorem aDN {gs : List (List aG × List aA)} (h : ∀ g ∈ gs, g.1.length ≤ 4398046510976) (hl : (flat gs).length ≤ 4096) : okL (flat gs) := by
  refine ⟨by omega, fun e he => ?_⟩
  obtain ⟨g, hg, h1⟩ := List.mem_flatMap.1 he
  obtain ⟨j, _, rfl⟩ := List.mem_map.1 h1
  exact h g hg

theorem aCt {l : List aC} (hl : okL l) : okL (kC l).1 := by
  by_cases h : (kC l).2 = 0
  · obtain ⟨_, _, _, h4, h5⟩ := JZ h
    rw [h4] at h5 ⊢
    refine aDN (fun g hg => ?_) h5
    obtain ⟨q, hq, rfl⟩ := List.mem_map.1 hg
    obtain ⟨r, hr, rfl⟩ := List.mem_map.1 hq
    obtain ⟨e, he, rfl⟩ := sR.1 hr
    exact hl.2 e he
  · rw [aB1 h]; exact SY

end Go.Abs
namespace Go.Abs
open Go
theorem OV {σ : Type} {y : σ → List aG → List aA → Option (σ × Bool)} (c : List aC) : ∀ (gs : List (List aG × List aA)) (s s' : σ), itG y gs s = some s' →
    ∃ x, itG (fun st t10 t11 => rnd (fun (s : σ) => kF y c s t10 t11) st) gs (.inl s) = some x ∧ Sum.elim id id x = s'
  | [], s, s', h => by simp only [itG, Option.some.injEq] at h; exact ⟨_, rfl, h⟩
  | g :: gs, s, s', h => by
    simp only [itG] at h
    obtain ⟨z, hz, h⟩ := aW h
    have hl : kF y c s g.1 g.2 = some (if z.2 then .inl z.1 else .inr z.1) := by
      unfold kF
      rw [hz]
      obtain ⟨z1, z2⟩ := z
      cases z2 <;> rfl
    cases h2 : z.2
    · rw [h2] at h hl
      simp only [Bool.false_eq_true, if_false, Option.some.injEq] at h hl
      refine ⟨.inr z.1, ?_, h⟩
      simp [itG, rnd, hl]
    · rw [h2] at h hl
      simp only [if_true] at h hl
      obtain ⟨x, h3, h4⟩ := OV c gs z.1 s' h
      refine ⟨x, ?_, h4⟩
      simp only [itG, rnd, hl, Option.bind_some, Sum.isLeft_inl, if_true]
      exact h3

theorem SN {σ : Type} {y : σ → List aG → List aA → Option (σ × Bool)} {l : List aC} (hl : okL l) {s s' : σ} (h : itG y (if oJ l then groups l else []) s = some s') : nR y l s = some s' := by
  unfold nR
  rw [aA5 hl]
  cases hm : oJ l
  · rw [hm] at h
    simp only [Bool.false_eq_true, if_false, itG] at h
    simpa using h
  · rw [hm] at h
    simp only [if_true] at h
    simp only [Option.bind_some, Bool.not_true, cond_false, qT, tC]
    obtain ⟨x, h1, h2⟩ := OV l (groups l) s s' h
    rw [TO hl h1]
    cases x <;> simpa using h2

theorem aCP {out : List aC} {r : List aG} {f : List aA} (hr : r.length ≤ 4398046510976) (hl : out.length + f.length ≤ 1099511627776) : AH out r f = some (out ++ eR r f) := by
  unfold AH DF
  rw [iN (l := f) (body := fun s : List aC × Int => pN r f s.1 s.2) (fun o i => (o, i)) (fun o t => o ++ eR r t) (fun o t => o.length + t.length ≤ 1099511627776) out ?_ ?_ hl]
  · rfl
  · intro i a t o ha hi
    left
    obtain ⟨d1, d2, d3, d4⟩ := idx ha (by have := (List.getElem?_eq_some_iff.1 ha).1; omega)
    simp only [List.length_cons] at hi
    refine ⟨o ++ [⟨r, a.At, a.Net⟩], ?_, by simp; omega, by simp [eR]⟩
    show pN _ _ _ _ = _
    simp only [pN, d1, cond_true, aX d2, d3, d4]
    rw [aX ⟨by omega, by omega⟩]
    exact aX (by simp only [List.length_cons, List.length_nil]; omega)
  · intro o _
    show pN _ _ _ _ = _
    simp only [pN, cY, cond_false]
    simp [eR]

theorem VD (r : List aG) (f : List aA) : (eR r f).length = f.length := by simp [eR]

theorem aDq {l a : List aC} (hu : l.any unE = false) (ho : l.any CX = false) (ma : oJ a = true) (h : ∀ r, fR (bW l r) = (bW a r, 0)) : kC l = (a, 0) := by
  obtain ⟨h1, _, h3⟩ := qX ma
  have hs := QL (by1 := fR) (PZ l)
  have hf : flat (zW fR (rY l)) = a := by
    rw [← CS]
    conv => rhs; rw [← AR a]
    rw [aAZ (gs := IU (zW fR (rY l))) (hs := groups a) (hs.filter _) h3 (VQ _) (aAI a) fun r => ?_]
    have h4 := uA (gs := IU (zW fR (rY l))) (hs.filter _) r
    rw [← h4, CS, uA hs, MK (by rw [UR]), IA, h r, nO h3]
  unfold kC
  rw [if_neg (by simp [hu]), if_neg (by simp [ho]), ZW (fun g hg => ?_) (by simpa [hf] using h1), hf]
  · rfl
  · obtain ⟨r, _, rfl⟩ := List.mem_map.1 hg
    simp only
    rw [h r]

theorem aBG {l : List aC} (hm : oJ l = true) {e : aC} (he : e ∈ l) : fC e.Row = true ∧ -2 < e.At ∧ e.At < 1125899906842624 ∧ e.Net ≠ 0 ∧ e.Net ≤ 1048576 ∧ -1048576 ≤ e.Net := by
  obtain ⟨_, h2, _⟩ := qX hm
  have he' : e ∈ flat (groups l) := by rw [AR]; exact he
  obtain ⟨g, hg, h1⟩ := List.mem_flatMap.1 he'
  obtain ⟨j, hj, rfl⟩ := List.mem_map.1 h1
  obtain ⟨a, b⟩ := h2 g hg
  exact ⟨a, (kK.1 b).2.above j hj⟩

theorem EB {l : List aC} (hm : oJ l = true) (r : List aG) : fL (bW l r) = true := by
  rw [← nO (qX hm).2.2]; exact aCS hm r

theorem aDw {f h : List aA} (h1 : f.any qJ = false) (h2 : f.any uI = false) (hh : fL h = true) (hv : ∀ t, -2 < t → t < 1125899906842624 → val h t = val f t) : fR f = (h, 0) := by
  unfold fR
  rw [if_neg (by simp [h1]), if_neg (by simp [h2]), QU (fun j hj => (EM h2 j hj).1) (aFf hh) hv]
  unfold told
  rw [if_pos hh]

end Go.Abs
namespace Go.Abs
open Go
theorem FE {l : List aC} (hl : okL l) (hn : l.length ≤ 1099511627776) {r : List aG} : oF l r = some (bW l r) := by
  unfold oF yZ
  rw [iN (l := l) (body := fun s : List aA × Int => mY l r s.1 s.2) (fun o i => (o, i)) (fun o t => o ++ bW t r) (fun o t => o.length + t.length ≤ 1099511627776) [] ?_ ?_ (by simpa using hn)]
  · rfl
  · intro i a t o ha hi
    left
    obtain ⟨d1, d2, d3, d4⟩ := idx ha (by omega)
    simp only [List.length_cons] at hi
    have hr := hl.2 a (List.mem_of_getElem? ha)
    have hb : mY l r o (i : Int) = some (.inl (if a.Row = r then o ++ [jE a] else o, ((i + 1 : Nat) : Int))) := by
      simp only [mY, uG, d1, cond_true, aX d2, d3, d4, AU a.Row r (by omega), Option.bind_some]
      by_cases e : a.Row = r
      · simp only [e, decide_true, cond_true, if_true]
        rw [aX (by simp only [List.length_cons, List.length_nil]; omega)]; rfl
      · simp [e]
    refine ⟨_, hb, ?_, ?_⟩
    · split
      · simp; omega
      · omega
    · by_cases e : a.Row = r <;> simp [bW, e]
  · intro o _
    show mY _ _ _ _ = _
    simp only [mY, cY, cond_false]
    simp [bW]

theorem QF (r : List aG) : ∀ rs : List (List aG), (tG r rs).length ≤ rs.length + 1
  | [] => by simp [tG]
  | x :: xs => by
    unfold tG
    split
    · simp only [List.length_cons]; have := QF r xs; omega
    · split <;> simp

def zX (r : List aG) : List (List aG) → Nat
  | [] => 0
  | x :: xs => if eB x r < 0 then zX r xs + 1 else 0

theorem aAU (r : List aG) : ∀ rs, zX r rs ≤ rs.length
  | [] => by simp [zX]
  | x :: xs => by unfold zX; split <;> simp [aAU r xs]

theorem YH (r : List aG) : ∀ rs, tG r rs = if rs[zX r rs]? = some r then rs else rs.take (zX r rs) ++ [r] ++ rs.drop (zX r rs)
  | [] => by simp [tG]
  | x :: xs => by
    unfold tG zX
    by_cases h : eB x r < 0
    · rw [if_pos h, if_pos h, YH r xs]
      simp only [List.getElem?_cons_succ, List.take_succ_cons, List.drop_succ_cons]
      split <;> simp
    · rw [if_neg h, if_neg h]
      by_cases e : x = r <;> simp [e]

theorem RF {l : List aC} {rs : List (List aG)} {e : aC} {i : Nat} (hi : l[i]? = some e) (hl : okL l) (he : fC e.Row = true) (hr : ∀ x ∈ rs, fC x = true) (hn : rs.length ≤ 1099511627776) : ∀ (t : List (List aG)) (k : Nat), rs.drop k = t → k ≤ rs.length →
    lp (fun s : List (List aG) × Int => mI l (i : Int) s.1 s.2) (rs, (k : Int)) = some (rs, ((k + zX e.Row t : Nat) : Int))
  | [], k, hd, hk => by
    have : k = rs.length := by
      have := congrArg List.length hd
      simp only [List.length_drop, List.length_nil] at this; omega
    subst this
    refine cT ?_
    show mI _ _ _ _ = _
    simp only [mI, cY, cP, cond_false, Option.bind_some, Bool.false_and]
    rw [aX (fun h => by cases h), aX (fun h => by cases h)]
    simp [zX]
  | x :: t, k, hd, hk => by
    obtain ⟨h1, h2⟩ := drop_cons hd
    have hlt := (List.getElem?_eq_some_iff.1 h1).1
    obtain ⟨d1, d2, d3, d4⟩ := idx h1 (by omega)
    obtain ⟨_, c2, c3, _⟩ := idx hi (by have := hl.1; omega)
    have hx := hr x (List.mem_of_getElem? h1)
    have hb : (fun s : List (List aG) × Int => mI l (i : Int) s.1 s.2) (rs, (k : Int)) = some (if eB x e.Row < 0 then .inl (rs, ((k + 1 : Nat) : Int)) else .inr (rs, (k : Int))) := by
      show mI _ _ _ _ = _
      simp only [mI, d1, cP, cond_true, d3, c3, d4, Bool.true_and]
      rw [aX (fun _ => d2), aX (fun _ => c2), MP x e.Row (by have := (wX hx).1; omega) (by have := (wX he).1; omega), hx, he]
      simp only [Bool.and_self, if_true, Option.bind_some]
      by_cases h : eB x e.Row < 0 <;> simp [h]
    unfold zX
    by_cases h : eB x e.Row < 0
    · rw [if_pos h] at hb
      rw [dQ hb, RF hi hl he hr hn t (k + 1) h2 (by omega), if_pos h]
      congr 3; omega
    · rw [if_neg h] at hb
      rw [cT hb, if_neg h]; rfl

theorem GG {l : List aC} (hl : okL l) (hm : ∀ e ∈ l, fC e.Row = true) (hn : l.length ≤ 1099511627776) : pS l = some (rowsOf l) := by
  unfold pS AV
  rw [iN (l := l) (body := fun s : List (List aG) × Int => oE l s.1 s.2) (fun o i => (o, i)) (fun o t => t.foldl (fun rs e => tG e.Row rs) o) (fun o t => o.length + t.length ≤ 1099511627776 ∧ ∀ x ∈ o, fC x = true) [] ?_ ?_ ⟨by simpa using hn, by simp⟩]
  · rfl
  · rintro i e t rs hi ⟨h1, h2⟩
    left
    obtain ⟨d1, d2, d3, d4⟩ := idx hi (by omega)
    have he := hm e (List.mem_of_getElem? hi)
    simp only [List.length_cons] at h1
    refine ⟨tG e.Row rs, ?_, ⟨by have := QF e.Row rs; omega, fun x hx => by
      rcases KW.1 hx with rfl | h
      · exact he
      · exact h2 x h⟩, rfl⟩
    show oE _ _ _ = _
    have hin := RF hi hl he h2 (by omega) rs 0 rfl (Nat.zero_le _)
    simp only [Int.natCast_zero, Nat.zero_add] at hin
    have hple := aAU e.Row rs
    simp only [oE, d1, cond_true, BL, hin, Option.bind_some, vZ, vS, d3, d4]
    rw [YH]
    by_cases hp : zX e.Row rs < rs.length
    · have hx : rs[zX e.Row rs]? = some rs[zX e.Row rs] := List.getElem?_eq_getElem hp
      obtain ⟨f1, f2, f3, _⟩ := idx hx (by omega)
      have hrow := h2 _ (List.mem_of_getElem? hx)
      simp only [f1, f3, cP, cond_true, Bool.true_and]
      rw [aX (fun _ => f2), aX (fun _ => d2), AU _ _ (by have := (wX hrow).1; omega)]
      by_cases hq : rs[zX e.Row rs] = e.Row
      · simp [hq, hx]
      · simp only [hq, decide_false, cond_false, Option.bind_some, hx, Option.some.injEq, if_false, Int.toNat_natCast]
        rw [aX ⟨by omega, by omega⟩, aX ⟨by simp; omega, by simp; omega⟩, aX d2, aX ⟨by simp; omega, by simp; omega⟩, aX ⟨by omega, by omega⟩, aX ⟨by simp; omega, by simp; omega⟩]
    · have hpe : zX e.Row rs = rs.length := by omega
      rw [hpe]
      simp only [cY, cP, cond_false, Option.bind_some, Bool.false_and]
      rw [aX (fun h => by cases h), aX (fun h => by cases h)]
      have hnone : rs[rs.length]? = none := by simp
      simp only [hnone, reduceCtorEq, if_false, Int.toNat_natCast]
      rw [aX ⟨by omega, by omega⟩, aX ⟨by simp; omega, by simp; omega⟩, aX d2, aX ⟨by simp; omega, by simp; omega⟩, aX ⟨by omega, by omega⟩, aX ⟨by simp; omega, by simp; omega⟩]
  · rintro rs ⟨_, _⟩
    show oE _ _ _ = _
    simp only [oE, cY, cond_false]
    rfl

theorem LK : ∀ (l : List aC) (rs : List (List aG)), (l.foldl (fun rs e => tG e.Row rs) rs).length ≤ rs.length + l.length
  | [], rs => by simp
  | e :: l, rs => by
    have := LK l (tG e.Row rs)
    have := QF e.Row rs
    simp only [List.foldl_cons, List.length_cons]; omega

theorem CY (l : List aC) : (rowsOf l).length ≤ l.length := by
  have := LK l []
  simpa [rowsOf] using this

theorem aAN (l : List aC) (r : List aG) : (bW l r).length ≤ l.length := by
  unfold bW; rw [List.length_map]; exact List.length_filter_le _ _

end Go.Abs
namespace Go.Abs
open Go
def xH (by1 : List aA → List aA × Int) : List (List aG × List aA) → List aC → List aC × Int
  | [], out => (out, 0)
  | g :: gs, out => if (by1 g.2).2 ≠ 0 then ([], (by1 g.2).2) else xH by1 gs (out ++ eR g.1 (by1 g.2).1)

def LC (x : List aC × Int) : List aC × Int := if x.2 = 0 ∧ 4096 < x.1.length then ([], 7) else x

theorem XF {by1 : List aA → List aA × Int} : ∀ {gs : List (List aG × List aA)} {out : List aC}, (∀ g ∈ gs, (by1 g.2).2 = 0 ∨ (by1 g.2).2 = 7) → 4096 < out.length → LC (xH by1 gs out) = ([], 7)
  | [], out, _, h => by simp [xH, LC, h]
  | g :: gs, out, he, h => by
    unfold xH
    rcases he g (by simp) with e | e
    · rw [if_neg (by simp [e])]
      exact XF (fun q hq => he q (by simp [hq])) (by rw [List.length_append]; omega)
    · rw [if_pos (by simp [e]), e]; simp [LC]

theorem aAY {by1 : List aA → List aA × Int} : ∀ {gs : List (List aG × List aA)} {out : List aC}, (∀ g ∈ gs, (by1 g.2).2 = 0 ∨ (by1 g.2).2 = 7) → out.length ≤ 4096 → LC (xH by1 gs out) = rH by1 gs out
  | [], out, _, h => by
    have : ¬ 4096 < out.length := by omega
    simp [xH, LC, rH, this]
  | g :: gs, out, he, h => by
    unfold xH rH
    rcases he g (by simp) with e | e
    · rw [if_neg (by simp [e]), if_neg (by simp [e])]
      by_cases hl : 4096 < (out ++ eR g.1 (by1 g.2).1).length
      · rw [if_pos hl]; exact XF (fun q hq => he q (by simp [hq])) hl
      · rw [if_neg hl]; exact aAY (fun q hq => he q (by simp [hq])) (by omega)
    · rw [if_pos (by simp [e]), if_pos (by simp [e]), e]; simp [LC]

theorem aEv {by1 : List aA → List aA × Int} {J : List aG → List aA} {rs : List (List aG)} {body : List aC × Int → Option ((List aC × Int) ⊕ (List aC ⊕ (List aC × Int)))} (h1 : ∀ f, (by1 f).1.length ≤ 1024) (hn : rs.length ≤ 1000000)
    (hb : ∀ (i : Nat) r out, rs[i]? = some r → out.length ≤ 1024000000 → body (out, (i : Int)) = some (if (by1 (J r)).2 ≠ 0 then .inr (.inr ([], (by1 (J r)).2)) else .inl (out ++ eR r (by1 (J r)).1, ((i + 1 : Nat) : Int))))
    (he : ∀ out, body (out, (rs.length : Nat)) = some (.inr (.inl out))) : ∃ x, lp body ([], 0) = some x ∧ Sum.elim (fun o => (o, (0 : Int))) id x = xH by1 (rs.map fun r => (r, J r)) [] ∧ (∀ o, x = .inl o → o.length ≤ 1024000000) ∧ ∀ o, x = .inr o → o.2 ≠ 0 := by
  refine ⟨_, iN (l := rs) (body := body) (fun o i => (o, i)) (fun o t => if (xH by1 (t.map fun r => (r, J r)) o).2 = 0 then .inl (xH by1 (t.map fun r => (r, J r)) o).1 else .inr (xH by1 (t.map fun r => (r, J r)) o)) (fun o t => o.length + 1024 * t.length ≤ 1024000000) [] ?_ ?_ (by simp; omega), ?_, ?_, ?_⟩
  · intro i r t o hi hl
    simp only [List.length_cons] at hl
    have := hb i r o hi (by omega)
    have h2 := h1 (J r)
    by_cases e : (by1 (J r)).2 ≠ 0
    · right
      rw [if_pos e] at this
      rw [this]
      simp only [List.map_cons, xH, if_pos e, if_neg e]
    · left
      rw [if_neg e] at this
      refine ⟨_, this, by rw [List.length_append, VD]; omega, ?_⟩
      simp only [List.map_cons, xH, if_neg e]
  · intro o _
    rw [he o]
    simp [xH]
  · cases h : (xH by1 (rs.map fun r => (r, J r)) []) with
    | mk a b =>
      by_cases e : b = 0
      · simp [e]
      · simp [e]
  · intro o ho
    have key : ∀ (gs : List (List aG)) (out : List aC), out.length + 1024 * gs.length ≤ 1024000000 → (xH by1 (gs.map fun r => (r, J r)) out).1.length ≤ 1024000000 := by
      intro gs
      induction gs with
      | nil => intro out h; simpa [xH] using h
      | cons r gs ih =>
        intro out h
        simp only [List.map_cons, xH]
        split
        · simp
        · refine ih _ ?_
          have := h1 (J r)
          simp only [List.length_cons] at h
          rw [List.length_append, VD]; omega
    split at ho
    · simp only [Sum.inl.injEq] at ho
      rw [← ho]; exact key rs [] (by simp; omega)
    · cases ho
  · intro o ho
    split at ho
    · cases ho
    · rename_i h
      simp only [Sum.inr.injEq] at ho
      rw [← ho]; exact h

theorem aFz {j : List aC → Option (List aC × Int)} {y : List aC × Int} {x : List aC ⊕ (List aC × Int)} (hj : ∀ o : List aC, o.length ≤ 1024000000 → j o = some (if 4096 < o.length then ([], 7) else (o, 0))) (hx : Sum.elim (fun o => (o, (0 : Int))) id x = y) (hl : ∀ o, x = .inl o → o.length ≤ 1024000000) (hy : ∀ o, x = .inr o → o.2 ≠ 0) : Sum.elim (fun o => j o) (fun rr : List aC × Int => some (rr.1, rr.2)) x = some (LC y) := by
  cases x with
  | inl o =>
    simp only [Sum.elim_inl] at hx ⊢
    rw [hj o (hl o rfl), ← hx]
    unfold LC
    by_cases h : 4096 < o.length <;> simp [h]
  | inr o =>
    simp only [Sum.elim_inr, id] at hx ⊢
    subst hx
    have := hy o rfl
    simp [LC, this]

theorem aCQ {f : List aA} (h1 : f.any qJ = false) (h2 : f.any uI = false) : (fR f).2 = 0 ∨ (fR f).2 = 7 := by
  unfold fR
  rw [if_neg (by simp [h1]), if_neg (by simp [h2])]
  unfold told
  split <;> simp

theorem FW {l : List aC} (h1 : l.any unE = false) (h2 : l.any CX = false) (r : List aG) : (bW l r).any qJ = false ∧ (bW l r).any uI = false := by
  constructor
  · refine List.any_eq_false.2 fun j hj => ?_
    obtain ⟨e, he, rfl⟩ := List.mem_map.1 hj
    have := JQ h1 e (List.mem_filter.1 he).1
    have h3 : (jE e).Net = e.Net := rfl
    simp only [qJ, FD, h3, Bool.not_eq_true', Bool.and_eq_false_iff, decide_eq_false_iff_not, not_or, Decidable.not_not, Bool.not_eq_false, Bool.and_eq_true, decide_eq_true_eq]
    omega
  · refine List.any_eq_false.2 fun j hj => ?_
    obtain ⟨e, he, rfl⟩ := List.mem_map.1 hj
    have := List.any_eq_false.1 h2 e (List.mem_filter.1 he).1
    have h3 : (jE e).At = e.At := rfl
    simp only [CX, Bool.or_eq_true, decide_eq_true_eq, not_or] at this
    simp only [uI, h3, Bool.or_eq_true, decide_eq_true_eq]
    omega

end Go.Abs
namespace Go.Abs
open Go
theorem aDv {l : List aC} (h1 : l.any unE = false) (h2 : l.any CX = false) : ∀ g ∈ rY l, (fR g.2).2 = 0 ∨ (fR g.2).2 = 7 := by
  intro g hg
  obtain ⟨r, _, rfl⟩ := List.mem_map.1 hg
  exact aCQ (FW h1 h2 r).1 (FW h1 h2 r).2

theorem aAw {l : List aC} (hl : okL l) (hn : l.length ≤ 1000000) : yS l = some (kC l) := by
  unfold yS BB kC
  rw [DN (l := l) (fun i => i) unE (.inr ([], 2)) (.inl ()) ?_ ?_]
  · cases h1 : l.any unE
    · simp only [Bool.false_eq_true, if_false, Option.bind_some, Sum.elim_inl, wI, CA]
      rw [DN (l := l) (fun i => i) CX (.inr ([], 13)) (.inl ()) ?_ ?_]
      · cases h2 : l.any CX
        · have hr := GG hl (fun e he => (JQ h1 e he).1) (by omega)
          simp only [Bool.false_eq_true, if_false, Option.bind_some, Sum.elim_inl, wM, hr, BH]
          have hR := aEv (by1 := fR) (J := bW l) (rs := rowsOf l) (body := fun s => oC l (rowsOf l) s.1 s.2) MS (by have := CY l; omega) ?_ ?_
          · obtain ⟨x, e1, e2, e3, e4⟩ := hR
            rw [e1]
            simp only [Option.bind_some]
            have hj : ∀ o : List aC, o.length ≤ 1024000000 → sP o = some (if 4096 < o.length then ([], 7) else (o, 0)) := by
              intro o _
              unfold sP
              by_cases h : 4096 < o.length
              · have h' : (4096 : Int) < ((o.length : Nat) : Int) := by omega
                simp [h, h']
              · have h' : ¬ (4096 : Int) < ((o.length : Nat) : Int) := by omega
                simp [h, h']
            exact (aFz hj e2 e3 e4).trans (congrArg some (aAY (aDv h1 h2) (by simp)))
          · intro i r out hi ho
            have := CY l
            have hlt := (List.getElem?_eq_some_iff.1 hi).1
            obtain ⟨d1, d2, d3, d4⟩ := idx hi (by omega)
            have hrow : fC r = true := by
              obtain ⟨e, he, rfl⟩ := sR.1 (List.mem_of_getElem? hi)
              exact (JQ h1 e he).1
            have h8 := (wX hrow).1
            have hjl := aAN l r
            have hnl := MS (bW l r)
            show oC _ _ _ _ = _
            simp only [oC, d1, cond_true, aX d2, d3, d4, FE hl (show l.length ≤ 1099511627776 by omega), Option.bind_some, aBL (show (bW l r).length ≤ 1099511627776 by omega)]
            by_cases e : (fR (bW l r)).2 = 0
            · rw [aCP (by omega) (by omega)]
              simp [e]
            · simp [e]
          · intro out
            show oC _ _ _ _ = _
            simp only [oC, cY, cond_false]
        · simp
      · intro i e hi
        obtain ⟨d1, d2, d3, d4⟩ := idx hi (by omega)
        show qE _ _ = _
        simp only [qE, d1, cond_true, aX d2, d3, d4]
        rw [aX (fun _ => d2)]
        unfold CX
        cases h : (decide (e.At < -1) || decide (1125899906842624 < e.At)) <;> simp
      · show qE _ _ = _
        simp only [qE, cY, cond_false]
    · simp
  · intro i e hi
    obtain ⟨d1, d2, d3, d4⟩ := idx hi (by omega)
    have hr := hl.2 e (List.mem_of_getElem? hi)
    show qG _ _ = _
    simp only [qG, d1, cond_true, aX d2, d3, d4, DS e.Row (by omega), Option.bind_some]
    rw [aX (fun _ => d2), aX (fun _ => d2)]
    unfold unE
    cases h : (((!fC e.Row) || decide (1048576 < e.Net)) || decide (e.Net < -1048576)) <;> simp
  · show qG _ _ = _
    simp only [qG, cY, cond_false]

abbrev ltE (x y : aC) : Prop := eB x.Row y.Row < 0 ∨ (x.Row = y.Row ∧ x.At < y.At)

theorem aCI {x y z : aC} (h1 : ltE x y) (h2 : ltE y z) : ltE x z := by
  rcases h1 with h1 | ⟨h1, h1'⟩ <;> rcases h2 with h2 | ⟨h2, h2'⟩
  · exact .inl (iK.trans _ _ _ h1 h2)
  · exact .inl (h2 ▸ h1)
  · exact .inl (h1 ▸ h2)
  · exact .inr ⟨h1.trans h2, by omega⟩

theorem ID : ∀ {f : List aA} {last : Int}, xF last f ↔ (∀ j ∈ f, rT last j = false) ∧ f.Pairwise fun a b => a.At < b.At
  | [], last => by simp [xF]
  | j :: f, last => by
    rw [List.pairwise_cons]
    unfold xF
    rw [← mL]
    constructor
    · rintro ⟨h1, h2⟩
      have h3 := ID.1 h2
      have h4 := mL.1 h1
      refine ⟨fun k hk => ?_, fun k hk => (mL.1 (h3.1 k hk)).1, h3.2⟩
      rcases List.mem_cons.1 hk with rfl | hk
      · exact h1
      · have := mL.1 (h3.1 k hk)
        exact mL.2 (by omega)
    · rintro ⟨h1, h2, h3⟩
      refine ⟨h1 j (by simp), ID.2 ⟨fun k hk => ?_, h3⟩⟩
      have := mL.1 (h1 k (by simp [hk]))
      have := h2 k hk
      exact mL.2 (by omega)

theorem EJ {l : List aC} : oJ l = true ↔ l.length ≤ 4096 ∧ (∀ e ∈ l, fC e.Row = true ∧ rT (-2) (jE e) = false) ∧ l.Pairwise ltE ∧ ∀ r ∈ rowsOf l, (bW l r).length ≤ 1024 := by
  constructor
  · intro h
    obtain ⟨h1, h2, h3⟩ := qX h
    refine ⟨h1, fun e he => ?_, ?_, fun r _ => (kK.1 (EB h r)).1⟩
    · obtain ⟨a, b, c, d, e1, e2⟩ := aBG h he
      exact ⟨a, mL.2 ⟨b, c, d, e1, e2⟩⟩
    · rw [← AR l]
      unfold flat
      rw [List.flatMap, List.pairwise_flatten, List.pairwise_map]
      constructor
      · intro x hx
        obtain ⟨g, hg, rfl⟩ := List.mem_map.1 hx
        have := (ID.1 (kK.1 (h2 g hg).2).2).2
        rw [eR, List.pairwise_map]
        exact this.imp fun h => .inr ⟨rfl, h⟩
      · refine h3.imp fun {a b} h x hx y hy => ?_
        obtain ⟨j, _, rfl⟩ := List.mem_map.1 hx
        obtain ⟨k, _, rfl⟩ := List.mem_map.1 hy
        exact .inl h
  · rintro ⟨h1, h2, h3, h4⟩
    have hs : Srt leE l := h3.imp fun h => by
      rcases h with h | ⟨h, h'⟩
      · exact .inl h
      · exact .inr ⟨h, by omega⟩
    have hg := vC hs
    unfold oJ
    rw [Bool.and_eq_true]
    refine ⟨by simpa using h1, yV.2 ⟨fun g hg' => ?_, hg, fun q hq => by cases hq⟩⟩
    obtain ⟨_, e, he, h5⟩ := GQ hg'
    have hj : g.2 = bW l g.1 := by rw [← nO hg, xP hg hg']
    refine ⟨by rw [h5]; exact (h2 e he).1, ?_⟩
    rw [hj]
    refine kK.2 ⟨h4 _ (sR.2 ⟨e, he, h5.symm⟩), ID.2 ⟨fun j hj => ?_, ?_⟩⟩
    · obtain ⟨e, he, rfl⟩ := List.mem_map.1 hj
      exact (h2 e (List.mem_filter.1 he).1).2
    · unfold bW
      rw [List.pairwise_map, List.pairwise_filter]
      refine h3.imp fun {a b} h ha hb => ?_
      rcases h with h | ⟨_, h⟩
      · simp only [decide_eq_true_eq] at ha hb
        rw [ha, hb] at h
        exact absurd h nN
      · exact h

theorem aDa {α : Type} {R : α → α → Prop} (ht : ∀ {x y z}, R x y → R y z → R x z) {l : List α} : l.Pairwise R ↔ ∀ (i : Nat) (a b : α), l[i]? = some a → l[i + 1]? = some b → R a b := by
  constructor
  · intro h i a b ha hb
    obtain ⟨h1, rfl⟩ := List.getElem?_eq_some_iff.1 ha
    obtain ⟨h2, rfl⟩ := List.getElem?_eq_some_iff.1 hb
    exact List.pairwise_iff_getElem.1 h i (i + 1) h1 h2 (by omega)
  · intro h
    refine List.pairwise_iff_getElem.2 fun i j hi hj hij => ?_
    obtain ⟨k, rfl⟩ : ∃ k, j = i + 1 + k := ⟨j - i - 1, by omega⟩
    clear hij
    induction k with
    | zero => exact h i _ _ (List.getElem?_eq_getElem hi) (List.getElem?_eq_getElem hj)
    | succ k ih => exact ht (ih (by omega)) (h (i + 1 + k) _ _ (List.getElem?_eq_getElem (by omega)) (List.getElem?_eq_getElem hj))

def UB (a b : List aG) : Int := if fC a && fC b then eB a b else 0

def HX (l : List aC) (i : Nat) : Bool := !(fC (l.getD i default).Row && !rT (-2) (jE (l.getD i default))) || (decide (i ≠ 0) && (decide (0 < UB (l.getD (i - 1) default).Row (l.getD i default).Row) || (decide (UB (l.getD (i - 1) default).Row (l.getD i default).Row = 0) && decide ((l.getD i default).At ≤ (l.getD (i - 1) default).At))))

theorem UW {l : List aC} : (List.range l.length).any (HX l) = false ↔ (∀ e ∈ l, fC e.Row = true ∧ rT (-2) (jE e) = false) ∧ l.Pairwise ltE := by
  rw [List.any_eq_false, aDa (R := ltE) (fun h1 h2 => aCI h1 h2)]
  constructor
  · intro h
    have h' : ∀ i, i < l.length → HX l i = false := fun i hi => by simpa using h i (List.mem_range.2 hi)
    refine ⟨fun e he => ?_, fun i a b ha hb => ?_⟩
    · obtain ⟨i, hi, rfl⟩ := List.mem_iff_getElem.1 he
      have := h' i hi
      unfold HX at this
      rw [Bool.or_eq_false_iff] at this
      have h1 := this.1
      simp only [List.getD_eq_getElem?_getD, List.getElem?_eq_getElem hi, Option.getD_some, Bool.not_eq_false', Bool.and_eq_true, Bool.not_eq_true'] at h1
      exact h1
    · obtain ⟨hi, rfl⟩ := List.getElem?_eq_some_iff.1 ha
      obtain ⟨hj, rfl⟩ := List.getElem?_eq_some_iff.1 hb
      have := h' (i + 1) hj
      have r1 := h' i hi
      unfold HX at this r1
      rw [Bool.or_eq_false_iff] at this r1
      have h1 := this.2
      have r2 := this.1
      have r1 := r1.1
      simp only [List.getD_eq_getElem?_getD, List.getElem?_eq_getElem hi, List.getElem?_eq_getElem hj, Option.getD_some, Bool.not_eq_false', Bool.and_eq_true, Bool.not_eq_true'] at r1 r2
      simp only [List.getD_eq_getElem?_getD, Nat.add_sub_cancel, List.getElem?_eq_getElem hi, List.getElem?_eq_getElem hj, Option.getD_some, ne_eq, Nat.add_eq_zero_iff, Nat.one_ne_zero, and_false, not_false_eq_true, decide_true, Bool.true_and, Bool.or_eq_false_iff, decide_eq_false_iff_not, Bool.and_eq_false_iff, UB, r1.1, r2.1, Bool.and_self, if_true] at h1
      by_cases hc : eB l[i].Row l[i + 1].Row = 0
      · refine .inr ⟨(iK.eq _ _).1 hc, ?_⟩
        rcases h1.2 with h | h
        · exact absurd hc h
        · omega
      · exact .inl (by omega)
  · rintro ⟨h1, h2⟩ i hi
    have hi := List.mem_range.1 hi
    unfold HX
    have ge : l.getD i default = l[i] := by simp [List.getD_eq_getElem?_getD, hi]
    have := h1 l[i] (List.getElem_mem hi)
    rw [ge, this.1, this.2]
    by_cases h0 : i = 0
    · simp [h0]
    · have hi' : i - 1 < l.length := by omega
      have ge' : l.getD (i - 1) default = l[i - 1] := by simp [List.getD_eq_getElem?_getD, hi']
      have h3 := h2 (i - 1) l[i - 1] l[i] (List.getElem?_eq_getElem hi') (by rw [show i - 1 + 1 = i by omega]; exact List.getElem?_eq_getElem hi)
      rw [ge']
      have r1 := (h1 l[i - 1] (List.getElem_mem hi')).1
      unfold UB
      rw [r1, this.1]
      rcases h3 with h3 | ⟨h3, h4⟩
      · have a : ¬ 0 < eB l[i - 1].Row l[i].Row := by omega
        have b : ¬ eB l[i - 1].Row l[i].Row = 0 := by omega
        simp [a, b]
      · have a : eB l[i - 1].Row l[i].Row = 0 := (iK.eq _ _).2 h3
        have b : ¬ l[i].At ≤ l[i - 1].At := by omega
        simp [a, b]

theorem RX {l : List aC} (hl : okL l) : xB l = some (oJ l) := by
  unfold xB
  by_cases hn : l.length ≤ 4096
  · have h1 : decide ((4096 : Int) < ((l.length : Nat) : Int)) = false := by simp; omega
    rw [h1, cond_false]
    unfold DX
    have hlp := DN (body := fun s => pV l s) (l := List.range l.length) (fun i => i) (HX l) (.inr false) (.inl ()) ?_ ?_
    · rw [hlp]
      cases hb : (List.range l.length).any (HX l)
      · obtain ⟨h2, h3⟩ := UW.1 hb
        have hr := GG hl (fun e he => (h2 e he).1) (by omega)
        simp only [Bool.false_eq_true, if_false, Option.bind_some, Sum.elim_inl, xY, hr, DY]
        have hrl := CY l
        rw [DN (l := rowsOf l) (fun i => i) (fun r => decide (1024 < (bW l r).length)) (.inr false) (.inl ()) ?_ ?_]
        · cases hc : (rowsOf l).any fun r => decide (1024 < (bW l r).length)
          · have : oJ l = true := EJ.2 ⟨hn, h2, h3, fun r hr => by
              have := List.any_eq_false.1 hc r hr
              simp only [decide_eq_true_eq] at this; omega⟩
            rw [this]; rfl
          · have : oJ l = false := by
              rw [Bool.eq_false_iff]
              intro hm
              obtain ⟨r, hr, h4⟩ := List.any_eq_true.1 hc
              have := (EJ.1 hm).2.2.2 r hr
              simp only [decide_eq_true_eq] at h4; omega
            rw [this]; rfl
        · intro i r hi
          obtain ⟨d1, d2, d3, d4⟩ := idx hi (by omega)
          show rK _ _ _ = _
          simp only [rK, d1, cond_true, aX d2, d3, d4, FE hl (show l.length ≤ 1099511627776 by omega), Option.bind_some]
          by_cases h : 1024 < (bW l r).length
          · have h' : (1024 : Int) < (((bW l r).length : Nat) : Int) := by omega
            simp [h, h']
          · have h' : ¬ (1024 : Int) < (((bW l r).length : Nat) : Int) := by omega
            simp [h, h']
        · show rK _ _ _ = _
          simp only [rK, cY, cond_false]
      · have : oJ l = false := by
          rw [Bool.eq_false_iff]
          intro hm
          obtain ⟨_, h2, h3, _⟩ := EJ.1 hm
          have := UW.2 ⟨h2, h3⟩
          rw [this] at hb; cases hb
        rw [this]; rfl
    · intro i k hi
      obtain ⟨hi0, hk⟩ := List.getElem?_eq_some_iff.1 hi
      rw [List.getElem_range] at hk
      subst hk
      have hi1 : i < l.length := by simpa using hi0
      have hx := List.getElem?_eq_getElem hi1
      obtain ⟨d1, d2, d3, d4⟩ := idx hx (by omega)
      have hr := hl.2 _ (List.getElem_mem hi1)
      have ge : l.getD i default = l[i] := by simp [List.getD_eq_getElem?_getD, hi1]
      show pV _ _ = _
      simp only [pV, d1, cond_true, aX d2, d3, DS l[i].Row (by omega), Option.bind_some]
      rw [aX (fun _ => d2), aX (fun _ => d2)]
      have hm : pL [⟨l[i].At, l[i].Net⟩] = some (!rT (-2) (jE l[i])) := by
        rw [HY]
        simp only [fL, chk, List.length_cons, List.length_nil, jE]
        cases rT (-2) ⟨l[i].At, l[i].Net⟩ <;> rfl
      rw [hm]
      unfold HX
      rw [ge]
      cases h2 : fC l[i].Row
      · simp [cP]
      · cases h3 : rT (-2) (jE l[i])
        · simp only [cP, Bool.not_true, Bool.not_false, cond_true, Option.bind_some, Bool.or_self, cond_false, Bool.and_self]
          by_cases h0 : i = 0
          · subst h0
            simp [uR, dW]
          · have hi' : i - 1 < l.length := by omega
            have hw : IntKind.i64.wrap ((i : Int) - 1) = ((i - 1 : Nat) : Int) := by rw [dW (by omega) (by omega)]; omega
            have hx' := List.getElem?_eq_getElem hi'
            obtain ⟨_, e2, e3, _⟩ := idx hx' (by omega)
            have ge' : l.getD (i - 1) default = l[i - 1] := by simp [List.getD_eq_getElem?_getD, hi']
            have hr' := hl.2 _ (List.getElem_mem hi')
            have hz : decide ((i : Int) = 0) = false := by simp; omega
            simp only [hz, cond_false, hw, aX e2, aX d2, e3, d3, ge']
            rw [MP _ _ (by omega) (by omega), show (if (fC l[i - 1].Row && fC l[i].Row) = true then eB l[i - 1].Row l[i].Row else 0) = UB l[i - 1].Row l[i].Row from rfl]
            simp only [Option.bind_some, uR, d4]
            rw [aX (fun _ => e2), aX (fun _ => d2)]
            generalize UB l[i - 1].Row l[i].Row = c
            cases hz2 : (decide (0 < c) || (decide (c = 0) && decide (l[i].At ≤ l[i - 1].At)))
            · simp
            · simp [h0]
        · simp [cP]
    · show pV _ _ = _
      simp only [pV, List.length_range, cY, cond_false]
  · have h1 : decide ((4096 : Int) < ((l.length : Nat) : Int)) = true := by simp; omega
    rw [h1, cond_true]
    simp [oJ, hn]

end Go.Abs
namespace Go.Abs
open Go
theorem aBh {c : Int} : ∀ {l : List Int} {m : Int}, c ≤ l.foldl mn m ↔ c ≤ m ∧ ∀ x ∈ l, c ≤ x
  | [], m => by simp
  | a :: l, m => by
    rw [List.foldl_cons, aBh]
    unfold mn
    constructor
    · rintro ⟨h1, h2⟩
      have h3 : c ≤ m ∧ c ≤ a := by split at h1 <;> omega
      refine ⟨h3.1, fun x hx => ?_⟩
      rcases List.mem_cons.1 hx with rfl | hx
      · exact h3.2
      · exact h2 x hx
    · rintro ⟨h1, h2⟩
      have := h2 a (by simp)
      exact ⟨by split <;> omega, fun x hx => h2 x (by simp [hx])⟩

theorem VO {t : Int} : ∀ {f : List aA} {l v : Int}, xF l f → v + val f t = v ∨ v + val f t ∈ parts v f
  | [], l, v, _ => .inl (by simp [val])
  | j :: r, l, v, h => by
    unfold parts
    rw [cK]
    by_cases e : j.At ≤ t
    · rw [if_pos e]
      right
      rcases VO (t := t) (v := v + j.Net) h.2 with h1 | h1
      · rw [show v + (j.Net + val r t) = v + j.Net by omega]; simp
      · rw [show v + (j.Net + val r t) = v + j.Net + val r t by omega]; exact List.mem_cons_of_mem _ h1
    · left
      rw [if_neg e, h.2.yQ (by omega)]; omega

theorem CM {f : List aA} (hf : fL f = true) : 0 ≤ tA f ↔ ∀ t, 0 ≤ val f t := by
  have hr := (kK.1 hf).2
  unfold tA
  rw [aBh]
  constructor
  · rintro ⟨_, h2⟩ t
    rcases VO (t := t) (v := 0) hr with h | h
    · omega
    · rw [parts_eq hr] at h
      obtain ⟨j, hj, h⟩ := List.mem_map.1 h
      have := h2 _ (List.mem_map.2 ⟨j, hj, rfl⟩)
      omega
  · intro h
    refine ⟨h _, fun x hx => ?_⟩
    obtain ⟨j, _, rfl⟩ := List.mem_map.1 hx
    exact h _

theorem qM {l : List aC} : pP l = true ↔ oJ l = true ∧ ∀ r t, 0 ≤ val (bW l r) t := by
  constructor
  · intro h
    unfold pP at h
    rw [Bool.and_eq_true, yV] at h
    obtain ⟨h1, h2, h3, _⟩ := h
    have hm : oJ l = true := by
      unfold oJ
      rw [Bool.and_eq_true]
      exact ⟨h1, yV.2 ⟨fun g hg => ⟨(h2 g hg).1, by have := (h2 g hg).2; unfold TG at this; rw [Bool.and_eq_true] at this; exact this.1⟩, h3, fun q hq => by cases hq⟩⟩
    refine ⟨hm, fun r => ?_⟩
    rw [← nO h3]
    rcases GN (groups l) r with ⟨e, _⟩ | ⟨g, hg, _, e⟩
    · rw [e]; intro t; simp [val]
    · rw [e]
      have := (h2 g hg).2
      unfold TG at this
      rw [Bool.and_eq_true, decide_eq_true_eq] at this
      exact (CM this.1).1 this.2
  · rintro ⟨hm, h⟩
    obtain ⟨h1, h2, h3⟩ := qX hm
    unfold pP
    rw [Bool.and_eq_true]
    refine ⟨by simpa using h1, yV.2 ⟨fun g hg => ⟨(h2 g hg).1, ?_⟩, h3, fun q hq => by cases hq⟩⟩
    unfold TG
    rw [Bool.and_eq_true, decide_eq_true_eq]
    refine ⟨(h2 g hg).2, (CM (h2 g hg).2).2 ?_⟩
    have : g.2 = bW l g.1 := by rw [← nO h3, xP h3 hg]
    rw [this]; exact h g.1

theorem XT {l : List aC} {r : List aG} (h : r ∉ rowsOf l) : bW l r = [] :=
  PC fun e he hr => h (sR.2 ⟨e, he, hr⟩)

theorem YX {l : List aC} (hl : okL l) : vU l = some (pP l) := by
  unfold vU
  rw [RX hl]
  cases hm : oJ l
  · have : pP l = false := by
      rw [Bool.eq_false_iff]; intro h
      rw [(qM.1 h).1] at hm; cases hm
    rw [this]; rfl
  · obtain ⟨h1, h2, _⟩ := EJ.1 hm
    simp only [Option.bind_some, Bool.not_true, cond_false, GG hl (fun e he => (h2 e he).1) (show l.length ≤ 1099511627776 by omega), yY]
    have hrl := CY l
    rw [DN (l := rowsOf l) (fun i => i) (fun r => decide (tA (bW l r) < 0)) (.inr false) (.inl ()) ?_ ?_]
    · cases hc : (rowsOf l).any fun r => decide (tA (bW l r) < 0)
      · have : pP l = true := qM.2 ⟨hm, fun r => by
          by_cases hr : r ∈ rowsOf l
          · have := List.any_eq_false.1 hc r hr
            simp only [decide_eq_true_eq] at this
            exact (CM (EB hm r)).1 (by omega)
          · rw [XT hr]; intro t; simp [val]⟩
        rw [this]; rfl
      · have : pP l = false := by
          rw [Bool.eq_false_iff]; intro h
          obtain ⟨r, _, hr⟩ := List.any_eq_true.1 hc
          simp only [decide_eq_true_eq] at hr
          have := (CM (EB hm r)).2 ((qM.1 h).2 r)
          omega
        rw [this]; rfl
    · intro i r hi
      obtain ⟨d1, d2, d3, d4⟩ := idx hi (by omega)
      show oX _ _ _ = _
      simp only [oX, d1, cond_true, aX d2, d3, d4, FE hl (show l.length ≤ 1099511627776 by omega), Option.bind_some, OJ, EB hm r, if_true]
      by_cases h : tA (bW l r) < 0 <;> simp [h]
    · show oX _ _ _ = _
      simp only [oX, cY, cond_false]

theorem aC2 {f : List aA} (hu : Up (-2) f) (h : ∀ t, -2 < t → t < 1125899906842624 → 0 ≤ val f t) : ∀ t, 0 ≤ val f t := by
  intro t
  by_cases h1 : -2 < t
  · by_cases h2 : t < 1125899906842624
    · exact h t h1 h2
    · have := HW (s := 1125899906842623) (t := t) (by omega) (f := f) (fun j hj => by have := (hu.above j hj); omega)
      rw [← this]; exact h _ (by omega) (by omega)
  · rw [hu.yQ (by omega)]; omega

theorem PK {l : List aC} (h : (kC l).2 = 0) (r : List aG) : bW (kC l).1 r = AY (bW l r) := by
  rw [← nO (qX (VA h)).2.2, aBR h, (PV (UT h r)).2.2.2]

theorem HE {l : List aC} (h : (kC l).2 = 0) (r : List aG) : ∀ j ∈ bW l r, -2 < j.At :=
  fun j hj => (EM (PV (UT h r)).2.1 j hj).1

theorem aAc {l : List aC} (h : (kC l).2 = 0) (hv : ∀ r t, -2 < t → t < 1125899906842624 → 0 ≤ val (bW l r) t) : pP (kC l).1 = true := by
  refine qM.2 ⟨VA h, fun r => ?_⟩
  rw [PK h]
  refine aC2 (KO (HE h r)) fun t h1 h2 => ?_
  rw [NS (HE h r) h1 h2]; exact hv r t h1 h2

end Go.Abs
namespace Go.Abs
open Go
theorem OZ {l : List aC} (hm : oJ l = true) : rY l = groups l := by
  obtain ⟨_, _, hp, _⟩ := EJ.1 hm
  have hs : Srt leE l := hp.imp fun h => by
    rcases h with h | ⟨h, h'⟩
    · exact .inl h
    · exact .inr ⟨h, by omega⟩
  have hg := vC hs
  unfold rY
  rw [← PM (List.Perm.refl l) hs, List.map_map]
  conv => rhs; rw [← List.map_id (groups l)]
  refine List.map_congr_left fun g hg' => ?_
  simp only [Function.comp, id]
  rw [← nO hg, xP hg hg']

end Go.Abs
namespace Go.Abs
open Go
def lM (f : List aA) : List Int := f.flatMap fun j => List.replicate j.Net.toNat j.At

def ends (f : List aA) : List Int := f.flatMap fun j => List.replicate (-j.Net).toNat j.At

def dL (f : List aA) : Int := (f.map fun j => if 0 < j.Net then j.Net else 0).sum

def pairs (d : Int) : List Int → List Int → List aT
  | [], _ => []
  | b :: bs, [] => ⟨b, d⟩ :: pairs d bs []
  | b :: bs, e :: es => ⟨b, e⟩ :: pairs d bs es

theorem mD (j : aA) (f : List aA) : lM (j :: f) = List.replicate j.Net.toNat j.At ++ lM f := rfl

theorem yP (j : aA) (f : List aA) : ends (j :: f) = List.replicate (-j.Net).toNat j.At ++ ends f := rfl

theorem nP (j : aA) (f : List aA) : dL (j :: f) = (if 0 < j.Net then j.Net else 0) + dL f := by simp [dL]

theorem XN (f g : List aA) : dL (f ++ g) = dL f + dL g := by simp [dL]

theorem rJ : ∀ f : List aA, 0 ≤ dL f
  | [] => by simp [dL]
  | j :: f => by rw [nP]; have := rJ f; split <;> omega

theorem DO : ∀ f : List aA, dL f = ((lM f).length : Nat)
  | [] => rfl
  | j :: f => by
    rw [nP, mD, List.length_append, List.length_replicate, DO f]
    split <;> omega

theorem yT (d : Int) : ∀ (B E : List Int), (pairs d B E).length = B.length
  | [], _ => rfl
  | _ :: bs, [] => by simp [pairs, yT d bs []]
  | _ :: bs, _ :: es => by simp [pairs, yT d bs es]

theorem LA (d t : Int) : ∀ (B E : List Int), E.length ≤ B.length → pairs d (B ++ [t]) E = pairs d B E ++ [⟨t, d⟩]
  | [], [], _ => rfl
  | [], _ :: _, h => by simp at h
  | b :: bs, [], _ => by simp only [List.cons_append, pairs, LA d t bs [] (by simp)]
  | b :: bs, e :: es, h => by simp only [List.cons_append, pairs, LA d t bs es (by simpa using h)]

theorem VI (d t : Int) : ∀ (B E : List Int), E.length < B.length → (pairs d B E).set E.length ⟨((pairs d B E).getD E.length default).From, t⟩ = pairs d B (E ++ [t])
  | [], _, h => by simp at h
  | b :: bs, [], _ => by simp [pairs]
  | b :: bs, e :: es, h => by
    have := VI d t bs es (by simpa using h)
    simp only [pairs, List.length_cons, List.set_cons_succ, List.cons_append, List.getD_cons_succ]
    rw [this]

theorem SD (d d' : Int) : ∀ (B E : List Int), B.length ≤ E.length → pairs d B E = pairs d' B E
  | [], _, _ => rfl
  | _ :: _, [], h => by simp at h
  | b :: bs, e :: es, h => by simp only [pairs, SD d d' bs es (by simpa using h)]

theorem GU (d d' : Int) : ∀ (B E : List Int), pairs d' B E = pairs d B (E ++ List.replicate (B.length - E.length) d')
  | [], E => by simp [pairs]
  | b :: bs, [] => by
    have := GU d d' bs []
    simp only [List.nil_append, List.length_nil, Nat.sub_zero, List.length_cons, List.replicate_succ, pairs] at this ⊢
    rw [this]
  | b :: bs, e :: es => by
    have := GU d d' bs es
    simp only [List.cons_append, List.length_cons, Nat.add_sub_add_right, pairs]
    rw [this]

def EZ (v : Int) : List aA → Prop
  | [] => True
  | j :: r => 0 ≤ v + j.Net ∧ EZ (v + j.Net) r

theorem PR : ∀ {f : List aA} {v : Int}, (∀ x ∈ parts v f, 0 ≤ x) → EZ v f
  | [], _, _ => trivial
  | j :: r, v, h => ⟨h _ (by simp [parts]), PR fun x hx => h x (by simp [parts, hx])⟩

theorem IB {f : List aA} (hf : fL f = true) (h : ∀ t, 0 ≤ val f t) : EZ 0 f := by
  refine PR fun x hx => ?_
  rw [parts_eq (kK.1 hf).2] at hx
  obtain ⟨j, _, rfl⟩ := List.mem_map.1 hx
  have := h j.At
  omega

theorem aEg {f : List aA} (hf : ∀ j ∈ f, j.Net ≤ 1048576 ∧ -1048576 ≤ j.Net) (hl : f.length ≤ 1099511627776) : tO f = some (dL f) := by
  unfold tO DB
  rw [iN (l := f) (body := fun s : Int × Int => pW f (f.length : Nat) s.1 s.2) (fun v i => (v, i)) (fun v r => v + dL r)
    (fun v r => (∀ j ∈ r, j.Net ≤ 1048576 ∧ -1048576 ≤ j.Net) ∧ 0 ≤ v ∧ v ≤ 1048576 * (1099511627776 - r.length) ∧ r.length ≤ 1099511627776) 0 ?_ ?_ ⟨hf, by omega, by omega, hl⟩]
  · simp [yK]
  · rintro i a r v ha ⟨h1, h2, h3, h4⟩
    have hlt := (List.getElem?_eq_some_iff.1 ha).1
    obtain ⟨d1, d2, d3, d4⟩ := idx ha (by omega)
    have hj := h1 a (List.mem_cons_self ..)
    simp only [List.length_cons] at h3 h4
    have hif : (if (0 : Int) > a.Net then 0 else a.Net) = (if 0 < a.Net then a.Net else 0) := by split <;> split <;> omega
    have hb : 0 ≤ (if 0 < a.Net then a.Net else 0) ∧ (if 0 < a.Net then a.Net else 0) ≤ 1048576 := by split <;> omega
    have hw : IntKind.i64.wrap (v + (if 0 < a.Net then a.Net else 0)) = v + (if 0 < a.Net then a.Net else 0) := dW (by omega) (by omega)
    left
    refine ⟨v + (if 0 < a.Net then a.Net else 0), ?_, ⟨fun j hj => h1 j (List.mem_cons_of_mem _ hj), by omega, by omega, by omega⟩, by rw [nP]; omega⟩
    show pW _ _ _ _ = _
    simp only [pW, d1, cond_true, aX d2, d3, d4, hif, hw]
  · rintro v _
    show pW _ _ _ _ = _
    simp only [pW, cY, cond_false]
    simp [dL]

theorem aA7 {f : List aA} (hf : fL f = true) : tO f = some (dL f) := aEg (CG hf) (by have := (kK.1 hf).1; omega)

theorem aAD {f : List aA} (hf : ∀ j ∈ f, j.Net ≤ 1048576) : dL f ≤ 1048576 * f.length := by
  induction f with
  | nil => simp [dL]
  | cons j f ih =>
    rw [nP, List.length_cons]
    have := ih fun k hk => hf k (by simp [hk])
    have := hf j (by simp)
    split <;> omega

theorem aCV {B E : List Int} {t : Int} (h : E.length < B.length) (hB : B.length ≤ 1000000) : mT t (pairs 0 B E) (E.length : Nat) = some (pairs 0 B (E ++ [t]), ((E.length + 1 : Nat) : Int)) := by
  unfold mT
  rw [aX ⟨by omega, by rw [yT]; omega⟩, Int.toNat_natCast, VI 0 t B E h, dW (by omega) (by omega)]
  rfl

theorem XJ {f : List aA} {i : Int} {j : aA} {E : List Int} (t13 : Int) (hN : j.Net ≤ 4294967296) : ∀ (n : Nat) (k : Nat) (B : List Int), E.length ≤ B.length → j.Net.toNat = k + n → B.length + n ≤ 1000000 →
    lp (fun s : List aT × Int × aA × Int => mK f t13 i j.Net s.1 s.2.1 s.2.2.1 s.2.2.2) (pairs 0 B E, ((E.length : Nat) : Int), j, (k : Int)) = some (pairs 0 (B ++ List.replicate n j.At) E, ((E.length : Nat) : Int), j)
  | 0, k, B, _, hk, _ => by
    refine cT ?_
    show mK _ _ _ _ _ _ _ _ = _
    have : decide ((k : Int) < j.Net) = false := by simp; omega
    simp only [mK, this, cond_false, List.replicate_zero, List.append_nil]
  | n + 1, k, B, hE, hk, hB => by
    have h1 : decide ((k : Int) < j.Net) = true := by simp; omega
    have hb : (fun s : List aT × Int × aA × Int => mK f t13 i j.Net s.1 s.2.1 s.2.2.1 s.2.2.2) (pairs 0 B E, ((E.length : Nat) : Int), j, (k : Int)) = some (.inl (pairs 0 (B ++ [j.At]) E, ((E.length : Nat) : Int), j, ((k + 1 : Nat) : Int))) := by
      show mK _ _ _ _ _ _ _ _ = _
      simp only [mK, h1, cond_true]
      rw [aX (by rw [yT]; simp only [List.length_cons, List.length_nil]; omega), LA 0 j.At B E hE, dW (by omega) (by omega)]
      rfl
    rw [dQ hb, XJ t13 hN n (k + 1) (B ++ [j.At]) (by simp; omega) (by omega) (by simp; omega), List.append_assoc, List.replicate_succ]
    rfl

theorem aCl {f : List aA} {i : Int} {j : aA} {B : List Int} (t13 : Int) (hB : B.length ≤ 1000000) (hN : -4294967296 ≤ j.Net) : ∀ (n : Nat) (k : Nat) (E : List Int), (-j.Net).toNat = k + n → E.length + n ≤ B.length →
    lp (fun s : List aT × Int × aA × Int => mG f t13 i (-j.Net) s.1 s.2.1 s.2.2.1 s.2.2.2) (pairs 0 B E, ((E.length : Nat) : Int), j, (k : Int)) = some (pairs 0 B (E ++ List.replicate n j.At), ((E.length + n : Nat) : Int))
  | 0, k, E, hk, _ => by
    refine cT ?_
    show mG _ _ _ _ _ _ _ _ = _
    have : decide ((k : Int) < -j.Net) = false := by simp; omega
    simp only [mG, this, cond_false, List.replicate_zero, List.append_nil, Nat.add_zero]
  | n + 1, k, E, hk, hE => by
    have h1 : decide ((k : Int) < -j.Net) = true := by simp; omega
    have hb : (fun s : List aT × Int × aA × Int => mG f t13 i (-j.Net) s.1 s.2.1 s.2.2.1 s.2.2.2) (pairs 0 B E, ((E.length : Nat) : Int), j, (k : Int)) = some (.inl (pairs 0 B (E ++ [j.At]), (((E ++ [j.At]).length : Nat) : Int), j, ((k + 1 : Nat) : Int))) := by
      show mG _ _ _ _ _ _ _ _ = _
      simp only [mG, h1, cond_true, aCV (show E.length < B.length by omega) hB, Option.bind_some]
      rw [dW (by omega) (by omega)]
      simp
    rw [dQ hb, aCl t13 hB hN n (k + 1) (E ++ [j.At]) (by omega) (by simp; omega), List.append_assoc, List.replicate_succ]
    have : (E ++ [j.At]).length + n = E.length + (n + 1) := by simp; omega
    rw [this]
    rfl

theorem aAV {B : List Int} (hB : B.length ≤ 1000000) : ∀ (n : Nat) (E : List Int), E.length + n = B.length →
    lp (fun s : List aT × Int => mM s.1 s.2) (pairs 0 B E, ((E.length : Nat) : Int)) = some (pairs 1125899906842624 B E)
  | 0, E, h => by
    refine cT ?_
    show mM _ _ = _
    have : decide (((E.length : Nat) : Int) < (((pairs 0 B E).length : Nat) : Int)) = false := by simp [yT]; omega
    simp only [mM, this, cond_false]
    rw [SD 0 1125899906842624 B E (by omega)]
  | n + 1, E, h => by
    have h1 : decide (((E.length : Nat) : Int) < (((pairs 0 B E).length : Nat) : Int)) = true := by simp [yT]; omega
    have hb : (fun s : List aT × Int => mM s.1 s.2) (pairs 0 B E, ((E.length : Nat) : Int)) = some (.inl (pairs 0 B (E ++ [1125899906842624]), (((E ++ [1125899906842624]).length : Nat) : Int))) := by
      show mM _ _ = _
      simp only [mM, h1, cond_true, aCV (show E.length < B.length by omega) hB, Option.bind_some]
      simp
    rw [dQ hb, aAV hB n (E ++ [1125899906842624]) (by simp; omega)]
    rw [GU 1125899906842624 1125899906842624 B E, GU 1125899906842624 1125899906842624 B (E ++ [1125899906842624])]
    have : B.length - E.length = B.length - (E ++ [(1125899906842624 : Int)]).length + 1 := by simp; omega
    rw [this, List.replicate_succ, List.append_assoc]
    rfl

def qK (f : List aA) : List aT := pairs 1125899906842624 (lM f) (ends f)

theorem LD : ∀ {f : List aA} {v : Int}, EZ v f → ((ends f).length : Int) ≤ v + (lM f).length ∨ f = []
  | [], _, _ => .inr rfl
  | j :: r, v, h => by
    left
    rw [yP, mD, List.length_append, List.length_append, List.length_replicate, List.length_replicate]
    rcases LD h.2 with h1 | h1
    · omega
    · subst h1
      have := h.1
      simp [lM, ends]
      omega

theorem aDe {f : List aA} (hf : fL f = true) (hn : ∀ t, 0 ≤ val f t) (hm : dL f ≤ 1000000) : xT f = some (qK f) := by
  have hok := IB hf hn
  have hlen := (kK.1 hf).1
  have hb0 := DO f
  unfold xT
  rw [aA7 hf]
  simp only [Option.bind_some]
  have h0 := rJ f
  rw [aX ⟨h0, by omega, by omega⟩]
  unfold BA
  have key := iN (l := f) (body := fun s : List aT × Int × Int => oG f (f.length : Nat) s.1 s.2.1 s.2.2) (fun (s : List Int × List Int) i => (pairs 0 s.1 s.2, ((s.2.length : Nat) : Int), i)) (fun s r => (pairs 0 (s.1 ++ lM r) (s.2 ++ ends r), (((s.2 ++ ends r).length : Nat) : Int)))
    (fun s r => s.2.length ≤ s.1.length ∧ EZ ((s.1.length : Int) - s.2.length) r ∧ s.1.length + (lM r).length ≤ 1000000 ∧ ∀ j ∈ r, j.Net ≤ 1048576 ∧ -1048576 ≤ j.Net) ([], []) ?_ ?_ ⟨by simp, by simpa using hok, by simp; omega, CG hf⟩
  · simp only [pairs, List.length_nil, Int.natCast_zero, List.nil_append] at key
    rw [key]
    simp only [Option.bind_some, vV, BO]
    have he : (ends f).length ≤ (lM f).length := by
      rcases LD hok with h | h
      · omega
      · subst h; simp [ends]
    rw [aAV (by omega) ((lM f).length - (ends f).length) (ends f) (by omega)]
    rfl
  · rintro i j r ⟨B, E⟩ ha ⟨h1, h2, h3, h4⟩
    left
    simp only at h1 h2 h3
    obtain ⟨d1, d2, d3, d4⟩ := idx ha (by omega)
    have hj := h4 j (by simp)
    have hv := h2.1
    rw [mD, List.length_append, List.length_replicate] at h3
    have hw : IntKind.i64.wrap (0 - j.Net) = -j.Net := by rw [dW (by omega) (by omega)]; omega
    refine ⟨(B ++ List.replicate j.Net.toNat j.At, E ++ List.replicate (-j.Net).toNat j.At), ?_, ⟨by simp; omega, ?_, by simp; omega, fun k hk => h4 k (by simp [hk])⟩, ?_⟩
    · show oG _ _ _ _ _ = _
      simp only [oG, d1, cond_true, aX d2, d3, BD]
      have b1 := XJ (f := f) (i := (i : Int)) (j := j) (E := E) (f.length : Nat) (by omega) j.Net.toNat 0 B h1 (by omega) (by omega)
      have e1 := aCl (f := f) (i := (i : Int)) (j := j) (B := B ++ List.replicate j.Net.toNat j.At) (f.length : Nat) (by simp; omega) (by omega) (-j.Net).toNat 0 E (by omega) (by simp; omega)
      simp only [Int.natCast_zero] at b1 e1
      rw [b1]
      simp only [Option.bind_some, wL, hw, BR]
      rw [e1]
      simp only [Option.bind_some, vN, d4]
      simp
    · have : (((B ++ List.replicate j.Net.toNat j.At).length : Nat) : Int) - (((E ++ List.replicate (-j.Net).toNat j.At).length : Nat) : Int) = (B.length : Int) - E.length + j.Net := by simp; omega
      simp only
      rw [this]; exact h2.2
    · simp only [mD, yP, List.append_assoc]
  · rintro ⟨B, E⟩ _
    show oG _ _ _ _ _ = _
    simp only [oG, cY, cond_false]
    simp [lM, ends]

def SF (f : List aA) : List aT × Int := if !fL f then ([], 2) else if decide (tA f < 0) then ([], 20) else if decide (4096 < dL f) then ([], 7) else (qK f, 0)

end Go.Abs
namespace Go.Abs
open Go
def tM (r : List aG) (ss : List aT) : List aM := ss.map fun s => ⟨r, s⟩

def tU (gs : List (List aG × List aA)) : List aM := gs.flatMap fun g => tM g.1 (qK g.2)

def nA (gs : List (List aG × List aA)) : Int := (gs.map fun g => dL g.2).sum

theorem GX (g : List aG × List aA) (gs : List (List aG × List aA)) : tU (g :: gs) = tM g.1 (qK g.2) ++ tU gs := rfl

theorem DA (g : List aG × List aA) (gs : List (List aG × List aA)) : nA (g :: gs) = dL g.2 + nA gs := by simp [nA]

theorem DI : ∀ gs : List (List aG × List aA), 0 ≤ nA gs
  | [] => by simp [nA]
  | g :: gs => by rw [DA]; have := DI gs; have := rJ g.2; omega

theorem KA (f : List aA) : ((qK f).length : Int) = dL f := by rw [qK, yT, DO]

theorem MX : ∀ gs : List (List aG × List aA), ((tU gs).length : Int) = nA gs
  | [] => rfl
  | g :: gs => by
    rw [GX, DA, List.length_append, ← MX gs, ← KA]
    simp [tM]

def GZ (l : List aC) : List aM × Int := if !oJ l then ([], 2) else if !pP l then ([], 20) else if decide (4096 < nA (groups l)) then ([], 7) else (tU (groups l), 0)

theorem XO (l0 c : List aC) : ∀ (gs : List (List aG × List aA)) (n : Int), (∀ g ∈ gs, fL g.2 = true) → 0 ≤ n → n + 1073741824 * gs.length ≤ 4611686018427387904 →
    itG (fun st t22 t23 => rnd (fun (s : Int) => oY l0 c s t22 t23) st) gs (.inl n) = some (.inl (n + nA gs))
  | [], n, _, _, _ => by simp [itG, nA]
  | g :: gs, n, hg, hn, hb => by
    have hm := hg g (by simp)
    have h0 := rJ g.2
    have h1 := aAD (f := g.2) fun j hj => (CG hm j hj).1
    have h2 := (kK.1 hm).1
    simp only [List.length_cons] at hb
    have hw : IntKind.i64.wrap (n + dL g.2) = n + dL g.2 := dW (by omega) (by omega)
    have hl : oY l0 c n g.1 g.2 = some (.inl (n + dL g.2)) := by
      unfold oY
      rw [aA7 hm]
      simp only [Option.bind_some, hw]
    simp only [itG, rnd, hl, Option.bind_some, Sum.isLeft_inl, if_true]
    have := XO l0 c gs (n + dL g.2) (fun q hq => hg q (by simp [hq])) (by omega) (by omega)
    simp only [rnd] at this
    rw [this, DA, Int.add_assoc]

theorem aE2 {r : List aG} (hr : r.length ≤ 4398046510976) (ss : List aT) (out : List aM) (h : out.length + ss.length ≤ 1000000) : uL out r ss ((ss.length : Nat) : Int) 0 = some (.inl (out ++ tM r ss)) := by
  unfold uL
  rw [iN (l := ss) (body := fun s : List aM × Int => mR r ss (ss.length : Nat) s.1 s.2) (fun o i => (o, i)) (fun o t => o ++ tM r t) (fun o t => o.length + t.length ≤ 1000000) out ?_ ?_ h]
  · rfl
  · intro i a t o ha hi
    left
    obtain ⟨d1, d2, d3, d4⟩ := idx ha (by omega)
    simp only [List.length_cons] at hi
    refine ⟨o ++ [⟨r, a⟩], ?_, by simp; omega, by simp [tM]⟩
    show mR _ _ _ _ _ = _
    simp only [mR, d1, cond_true, aX d2, d3, d4, KE hr, Option.bind_some]
    exact aX (by simp only [List.length_cons, List.length_nil]; omega)
  · intro o _
    show mR _ _ _ _ _ = _
    simp only [mR, cY, cond_false]
    simp [tM]

theorem UI (c : List aC) : ∀ (gs : List (List aG × List aA)) (out : List aM), (∀ g ∈ gs, fL g.2 = true ∧ (∀ t, 0 ≤ val g.2 t) ∧ g.1.length ≤ 4398046510976) → out.length + nA gs ≤ 1000000 →
    itG (fun st t34 t35 => rnd (fun (s : List aM) => oZ c s t34 t35) st) gs (.inl out) = some (.inl (out ++ tU gs))
  | [], out, _, _ => by simp [itG, tU]
  | g :: gs, out, hg, hb => by
    obtain ⟨hm, hn, hr⟩ := hg g (by simp)
    have h0 := rJ g.2
    have h1 := DI gs
    rw [DA] at hb
    have hs := KA g.2
    have hl : oZ c out g.1 g.2 = some (.inl (out ++ tM g.1 (qK g.2))) := by
      unfold oZ
      rw [aDe hm hn (by omega)]
      simp only [Option.bind_some]
      rw [aE2 hr _ _ (by omega)]
    simp only [itG, rnd, hl, Option.bind_some, Sum.isLeft_inl, if_true]
    have := UI c gs (out ++ tM g.1 (qK g.2)) (fun q hq => hg q (by simp [hq])) (by simp only [List.length_append, tM, List.length_map]; omega)
    simp only [rnd] at this
    rw [this, GX, List.append_assoc]

theorem FX : ∀ (l : List aC) (r : List aG) (f : List aA), (gA r f l).length ≤ l.length + 1
  | [], _, _ => by simp [gA]
  | e :: l, r, f => by
    rw [TE]
    split
    · have := FX l r (f ++ [jE e]); simp only [List.length_cons]; omega
    · have := FX l e.Row [jE e]; simp only [List.length_cons]; omega

theorem aBv (l : List aC) : (groups l).length ≤ l.length := by
  cases l with
  | nil => simp [groups]
  | cons e l => exact FX l e.Row [jE e]

theorem rP {l : List aC} (ht : pP l = true) {g : List aG × List aA} (hg : g ∈ groups l) : fL g.2 = true ∧ ∀ t, 0 ≤ val g.2 t := by
  obtain ⟨hm, hv⟩ := qM.1 ht
  obtain ⟨_, h2, h3⟩ := qX hm
  have : g.2 = bW l g.1 := by rw [← nO h3, xP h3 hg]
  exact ⟨(h2 g hg).2, by rw [this]; exact hv g.1⟩

theorem aCw {l : List aC} (hl : okL l) : wG l = some (GZ l) := by
  unfold wG GZ
  rw [aA5 hl]
  cases hm : oJ l
  · simp
  · simp only [Option.bind_some, Bool.not_true, cond_false, aCn hl, Bool.false_eq_true, if_false]
    cases ht : pP l
    · simp
    · have hn := (qX hm).1
      have hgl := aBv l
      have h0 := DI (groups l)
      simp only [Bool.not_true, cond_false, Bool.false_eq_true, if_false, rZ, Option.bind_some, zN]
      have hc := XO l l (groups l) 0 (fun g hg => (rP ht hg).1) (by omega) (by omega)
      rw [SN hl (s' := .inl (0 + nA (groups l))) (by rw [hm]; simpa using hc)]
      simp only [Option.bind_some, Sum.elim_inl, Int.zero_add]
      by_cases h7 : 4096 < nA (groups l)
      · simp [h7]
      · simp only [h7, decide_false, cond_false, Bool.false_eq_true, if_false]
        rw [aX ⟨h0, by omega, by omega⟩]
        unfold uB
        have hp := UI l (groups l) [] (fun g hg => ⟨(rP ht hg).1, (rP ht hg).2, US hl hg⟩) (by simp; omega)
        rw [SN hl (s' := .inl ([] ++ tU (groups l))) (by rw [hm]; simpa using hp)]
        rfl

def LG (s : aT) : Bool := OC s || ((decide (s.From = -1) && decide (0 ≤ s.To)) && decide (s.To ≤ 1125899906842624))

def pM (p : aM) : Bool := fC p.Row && LG p.Span

theorem TN (p : aM) : sS p = some (pM p) := by
  unfold sS pM
  rw [JF]
  cases h : fC p.Row
  · simp [cP]
  · simp only [cP, cond_true, Option.bind_some, FH, aBB, LG, Bool.true_and]

theorem MO {s : aT} : LG s = true ↔ -1 ≤ s.From ∧ s.From < s.To ∧ 0 ≤ s.To ∧ s.To ≤ 1125899906842624 := by
  unfold LG OC
  simp only [Bool.or_eq_true, Bool.and_eq_true, decide_eq_true_eq]
  omega

def okP (l : List aM) : Prop := l.length ≤ 3518437208783 ∧ ∀ e ∈ l, e.Row.length ≤ 4398046510976

theorem ZV {l : List aM} {f : aM → Option Bool} {g : aM → Bool} (hl : l.length ≤ 1099511627776) (hf : ∀ x ∈ l, f x = some (g x)) : dN l f = some (l.any g) := by
  unfold dN fT fE
  obtain ⟨x, e, hx⟩ := HG hl hf l 0 rfl (Nat.zero_le _)
  have e' : lp (fun s => fH f l (l.length : Nat) s) 0 = some x := e
  rw [e']
  rcases hx with ⟨rfl, h⟩ | ⟨i, rfl, _, _, h, _⟩
  · simp [dS, h]
  · simp [h]

def peL (l : List aM) : List aC := l.flatMap fun p => [⟨p.Row, p.Span.From, 1⟩, ⟨p.Row, p.Span.To, -1⟩]

theorem EL (p : aM) (l : List aM) : peL (p :: l) = [⟨p.Row, p.Span.From, 1⟩, ⟨p.Row, p.Span.To, -1⟩] ++ peL l := rfl

theorem aBO (a b : List aM) : peL (a ++ b) = peL a ++ peL b := by simp [peL]

theorem NX : ∀ l : List aM, (peL l).length = 2 * l.length
  | [] => rfl
  | p :: l => by rw [EL, List.length_append, NX l]; simp; omega

theorem TU {l : List aM} (hl : okP l) (h : l.length ≤ 1000000) : okL (peL l) :=
  ⟨by rw [NX]; omega, fun e he => by
    obtain ⟨p, hp, h1⟩ := List.mem_flatMap.1 he
    have := hl.2 p hp
    simp only [List.mem_cons, List.not_mem_nil, or_false] at h1
    rcases h1 with rfl | rfl <;> exact this⟩

def dZ (l : List aM) : List aC × Int := if l.any (fun p => !pM p) then ([], 2) else if decide (4096 < l.length) then ([], 7) else kC (peL l)

theorem VP {l : List aM} (hl : okP l) (hn : l.length ≤ 1099511627776) : uU l = some (dZ l) := by
  unfold uU dZ
  rw [ZV (g := fun p => !pM p) hn (fun p _ => by simp [tV, TN])]
  simp only [Option.bind_some]
  cases h1 : l.any fun p => !pM p
  · simp only [cond_false, Bool.false_eq_true, if_false]
    by_cases h2 : 4096 < l.length
    · have h2' : (4096 : Int) < ((l.length : Nat) : Int) := by omega
      simp [h2, h2']
    · have h2' : ¬ (4096 : Int) < ((l.length : Nat) : Int) := by omega
      simp only [h2, h2', decide_false, cond_false, Bool.false_eq_true, if_false]
      have hw : IntKind.i64.wrap ((2 : Int) * ((l.length : Nat) : Int)) = 2 * ((l.length : Nat) : Int) := dW (by omega) (by omega)
      rw [hw, aX ⟨by omega, by omega, by omega⟩]
      unfold BI
      rw [iN (l := l) (body := fun s : List aC × Int => nY l (l.length : Nat) s.1 s.2) (fun o i => (o, i)) (fun o t => o ++ peL t) (fun o t => o.length + 2 * t.length ≤ 1000000) [] ?_ ?_ (by simp; omega)]
      · simp only [Option.bind_some, List.nil_append, vW]
        rw [aC9 (TU hl (by omega)) (by rw [NX]; omega)]
        rfl
      · intro i a t o ha hi
        left
        obtain ⟨d1, d2, d3, d4⟩ := idx ha (by omega)
        simp only [List.length_cons] at hi
        refine ⟨o ++ [⟨a.Row, a.Span.From, 1⟩, ⟨a.Row, a.Span.To, -1⟩], ?_, by simp; omega, by rw [EL]; simp⟩
        show nY _ _ _ _ = _
        simp only [nY, d1, cond_true, aX d2, d3, d4]
        exact aX (by simp only [List.length_cons, List.length_nil]; omega)
      · intro o _
        show nY _ _ _ _ = _
        simp only [nY, cY, cond_false]
        simp [peL]
  · simp

def oO (l : List aM) : List aM × Int := if (dZ l).2 ≠ 0 then ([], (dZ l).2) else GZ (dZ l).1

theorem LB {l : List aM} (hl : okP l) : okL (dZ l).1 := by
  unfold dZ
  split
  · exact SY
  · split
    · exact SY
    · rename_i h
      exact aCt (TU hl (by simp at h; omega))

theorem QJ {l : List aM} (hl : okP l) (hn : l.length ≤ 1099511627776) : tK l = some (oO l) := by
  unfold tK oO
  rw [VP hl hn]
  simp only [Option.bind_some]
  by_cases h : (dZ l).2 = 0
  · simp only [h, decide_true, Bool.not_true, cond_false, aCw (LB hl), Option.bind_some, ne_eq, not_true_eq_false, if_false]
  · simp [h]

end Go.Abs
namespace Go.Abs
open Go
theorem RN {l : List aC} (h : oJ l = true) (r : List aG) : look (groups l) r = bW l r := nO (qX h).2.2 r

end Go.Abs
namespace Go.Abs
open Go
def cnt (t : Int) (l : List Int) : Int := (l.map fun x => if x ≤ t then 1 else 0).sum

theorem KM (t x : Int) (l : List Int) : cnt t (x :: l) = (if x ≤ t then 1 else 0) + cnt t l := by simp [cnt]

theorem RV (t : Int) (a b : List Int) : cnt t (a ++ b) = cnt t a + cnt t b := by simp [cnt]

theorem GC (t x : Int) : ∀ n : Nat, cnt t (List.replicate n x) = if x ≤ t then (n : Int) else 0
  | 0 => by simp [cnt]
  | n + 1 => by rw [List.replicate_succ, KM, GC t x n]; split <;> omega

theorem aA0 (t : Int) : ∀ f : List aA, val f t = cnt t (lM f) - cnt t (ends f)
  | [] => rfl
  | j :: f => by
    rw [cK, mD, yP, RV, RV, GC, GC, aA0 t f]
    split <;> omega

def spJ (ss : List aT) : List aA := ss.flatMap fun s => [⟨s.From, 1⟩, ⟨s.To, -1⟩]

theorem XE (s : aT) (ss : List aT) : spJ (s :: ss) = [⟨s.From, 1⟩, ⟨s.To, -1⟩] ++ spJ ss := rfl

theorem MZ (s : aT) (ss : List aT) (t : Int) : val (spJ (s :: ss)) t = (if s.From ≤ t then 1 else 0) - (if s.To ≤ t then 1 else 0) + val (spJ ss) t := by
  rw [XE, DE, cK, cK, qY]
  simp only
  split <;> split <;> omega

theorem NA {d t : Int} (ht : t < d) : ∀ (B E : List Int), E.length ≤ B.length → val (spJ (pairs d B E)) t = cnt t B - cnt t E
  | [], [], _ => rfl
  | [], _ :: _, h => by simp at h
  | b :: bs, [], _ => by
    rw [pairs, MZ, NA ht bs [] (by simp), KM]
    have : ¬ d ≤ t := by omega
    simp only [this, if_false, cnt, List.map_nil, List.sum_nil]
    omega
  | b :: bs, e :: es, h => by
    rw [pairs, MZ, NA ht bs es (by simpa using h), KM, KM]
    simp only
    omega

theorem aBk {f : List aA} (h : EZ 0 f) : (ends f).length ≤ (lM f).length := by
  rcases LD h with h | h
  · omega
  · subst h; simp [ends]

theorem aCK {f : List aA} (h : EZ 0 f) {t : Int} (ht : t < 1125899906842624) : val (spJ (qK f)) t = val f t := by
  rw [qK, NA ht _ _ (aBk h), aA0]

theorem PS (d e : Int) : ∀ (n : Nat) (Q B E : List Int), Q.length = n → pairs d (Q ++ B) (List.replicate n e ++ E) = Q.map (fun b => ⟨b, e⟩) ++ pairs d B E
  | 0, Q, B, E, h => by
    have : Q = [] := List.length_eq_zero_iff.1 h
    subst this; simp
  | n + 1, [], B, E, h => by simp at h
  | n + 1, q :: Q, B, E, h => by
    simp only [List.cons_append, List.replicate_succ, pairs, List.map_cons, PS d e n Q B E (by simpa using h)]

theorem QI {d : Int} : ∀ {f : List aA} {last : Int} {Q : List Int}, xF last f → EZ (Q.length : Int) f → (∀ q ∈ Q, q ≤ last) → (∀ q ∈ Q, q < d) → (∀ j ∈ f, j.At < d) → ∀ s ∈ pairs d (Q ++ lM f) (ends f), s.From < s.To ∧ s.To ≤ d ∧ (s.From ∈ Q ∨ s.From ∈ lM f)
  | [], last, Q, _, _, hq, hd, _, s, hs => by
    simp only [lM, ends, List.flatMap_nil, List.append_nil] at hs ⊢
    have key : ∀ Q : List Int, (∀ q ∈ Q, q < d) → ∀ s ∈ pairs d Q [], s.From < s.To ∧ s.To ≤ d ∧ s.From ∈ Q := by
      intro Q
      induction Q with
      | nil => intro _ s hs; simp [pairs] at hs
      | cons q Q ih =>
        intro hd s hs
        rw [pairs] at hs
        rcases List.mem_cons.1 hs with rfl | hs
        · exact ⟨hd q (by simp), Int.le_refl _, by simp⟩
        · obtain ⟨h1, h2, h3⟩ := ih (fun x hx => hd x (by simp [hx])) s hs
          exact ⟨h1, h2, by simp [h3]⟩
    obtain ⟨h1, h2, h3⟩ := key Q hd s hs
    exact ⟨h1, h2, .inl h3⟩
  | j :: r, last, Q, hr, hv, hq, hd, hf, s, hs => by
    have hj := hr.1
    have hjd := hf j (by simp)
    by_cases hn : 0 < j.Net
    · have h0 : (-j.Net).toNat = 0 := by omega
      rw [mD, yP, h0, List.replicate_zero, List.nil_append, ← List.append_assoc] at hs
      obtain ⟨h1, h2, h3⟩ := QI (d := d) (Q := Q ++ List.replicate j.Net.toNat j.At) hr.2 (by
          have := hv.2
          rw [show (((Q ++ List.replicate j.Net.toNat j.At).length : Nat) : Int) = (Q.length : Int) + j.Net by simp; omega]
          exact this) (fun q hq' => by
          rcases List.mem_append.1 hq' with h | h
          · have := hq q h; omega
          · rw [(List.mem_replicate.1 h).2]; exact Int.le_refl _) (fun q hq' => by
          rcases List.mem_append.1 hq' with h | h
          · exact hd q h
          · rw [(List.mem_replicate.1 h).2]; exact hjd) (fun k hk => hf k (by simp [hk])) s hs
      refine ⟨h1, h2, ?_⟩
      rw [mD, List.mem_append]
      rcases h3 with h3 | h3
      · rcases List.mem_append.1 h3 with h | h
        · exact .inl h
        · exact .inr (.inl h)
      · exact .inr (.inr h3)
    · have h0 : j.Net.toNat = 0 := by omega
      have hlen : (-j.Net).toNat ≤ Q.length := by have := hv.1; omega
      rw [mD, yP, h0, List.replicate_zero, List.nil_append] at hs
      have hQ : Q = Q.take (-j.Net).toNat ++ Q.drop (-j.Net).toNat := (List.take_append_drop _ _).symm
      rw [hQ, List.append_assoc, PS d j.At _ _ _ _ (by simp; omega)] at hs
      rcases List.mem_append.1 hs with hs | hs
      · obtain ⟨q, hq', rfl⟩ := List.mem_map.1 hs
        have hm := List.mem_of_mem_take hq'
        have := hq q hm
        exact ⟨by simp only; omega, by simp only; omega, .inl hm⟩
      · obtain ⟨h1, h2, h3⟩ := QI (d := d) (Q := Q.drop (-j.Net).toNat) hr.2 (by
            have := hv.2
            rw [show (((Q.drop (-j.Net).toNat).length : Nat) : Int) = (Q.length : Int) + j.Net by simp; omega]
            exact this) (fun q hq' => by have := hq q (List.mem_of_mem_drop hq'); omega) (fun q hq' => hd q (List.mem_of_mem_drop hq')) (fun k hk => hf k (by simp [hk])) s hs
        refine ⟨h1, h2, ?_⟩
        rw [mD, h0, List.replicate_zero, List.nil_append]
        rcases h3 with h3 | h3
        · exact .inl (List.mem_of_mem_drop h3)
        · exact .inr h3

theorem aAd {f : List aA} (hf : fL f = true) (h : ∀ t, 0 ≤ val f t) {s : aT} (hs : s ∈ qK f) : LG s = true := by
  have hp := aBu hf
  obtain ⟨h1, h2, h3⟩ := QI (d := 1125899906842624) (Q := []) (kK.1 hf).2 (by simpa using IB hf h) (by simp) (by simp) (fun j hj => (hp j hj).2) s (by simpa [qK] using hs)
  rcases h3 with h3 | h3
  · simp at h3
  · obtain ⟨j, hj, h4⟩ := List.mem_flatMap.1 h3
    have e := (List.mem_replicate.1 h4).2
    have := hp j hj
    exact MO.2 (by omega)

theorem VT (q r : List aG) (ss : List aT) : bW (peL (tM q ss)) r = if q = r then spJ ss else [] := by
  induction ss with
  | nil => simp [tM, peL, spJ, bW]
  | cons s ss ih =>
    have : tM q (s :: ss) = ⟨q, s⟩ :: tM q ss := rfl
    rw [this, EL, qW, ih]
    by_cases e : q = r
    · simp only [e, if_true, XE]
      simp [bW, jE]
    · simp [e, bW]

theorem UF {r : List aG} {t : Int} (ht : t < 1125899906842624) : ∀ {gs : List (List aG × List aA)}, vL gs → (∀ g ∈ gs, EZ 0 g.2) → val (bW (peL (tU gs)) r) t = val (look gs r) t
  | [], _, _ => rfl
  | g :: gs, hs, hg => by
    have hs' := List.pairwise_cons.1 hs
    rw [GX, aBO, qW, DE, VT, sU, UF ht hs'.2 fun q hq => hg q (by simp [hq])]
    by_cases e : g.1 = r
    · rw [if_pos e, if_pos e, aCK (hg g (by simp)) ht, yL fun q hq => ?_, qY, Int.add_zero]
      intro h
      have this : eB g.1 q.1 < 0 := hs'.1 q hq
      rw [h, ← e] at this
      exact nN this
    · rw [if_neg e, if_neg e, qY, Int.zero_add]

theorem aCH {gs : List (List aG × List aA)} {p : aM} (h : p ∈ tU gs) : ∃ g ∈ gs, p.Row = g.1 ∧ p.Span ∈ qK g.2 := by
  obtain ⟨g, hg, h1⟩ := List.mem_flatMap.1 h
  obtain ⟨s, hs, rfl⟩ := List.mem_map.1 h1
  exact ⟨g, hg, rfl, hs⟩

theorem NN {x : List aC} (ht : pP x = true) {p : aM} (h : p ∈ tU (groups x)) : pM p = true := by
  obtain ⟨g, hg, h1, h2⟩ := aCH h
  obtain ⟨a, b⟩ := rP ht hg
  unfold pM
  rw [h1, ((qX (qM.1 ht).1).2.1 g hg).1, aAd a b h2]; rfl

theorem aEj {l : List aM} {e : aC} (h : e ∈ peL l) : ∃ p ∈ l, e = ⟨p.Row, p.Span.From, 1⟩ ∨ e = ⟨p.Row, p.Span.To, -1⟩ := by
  obtain ⟨p, hp, h1⟩ := List.mem_flatMap.1 h
  exact ⟨p, hp, by simpa using h1⟩

theorem aEO {l : List aM} (h : ∀ p ∈ l, pM p = true) : (peL l).any unE = false ∧ (peL l).any CX = false := by
  have key : ∀ e ∈ peL l, fC e.Row = true ∧ (e.Net = 1 ∨ e.Net = -1) ∧ -1 ≤ e.At ∧ e.At ≤ 1125899906842624 := by
    intro e he
    obtain ⟨p, hp, h1⟩ := aEj he
    have hm := h p hp
    unfold pM at hm
    rw [Bool.and_eq_true, MO] at hm
    rcases h1 with rfl | rfl
    · exact ⟨hm.1, .inl rfl, by simp only; omega, by simp only; omega⟩
    · exact ⟨hm.1, .inr rfl, by simp only; omega, by simp only; omega⟩
  refine ⟨List.any_eq_false.2 fun e he => ?_, List.any_eq_false.2 fun e he => ?_⟩
  · obtain ⟨h1, h2, _⟩ := key e he
    simp only [unE, h1, Bool.not_true, Bool.false_or, Bool.or_eq_true, decide_eq_true_eq]; omega
  · obtain ⟨_, _, h3, h4⟩ := key e he
    simp only [CX, Bool.or_eq_true, decide_eq_true_eq]; omega

theorem VH {l : List aM} (h : ∀ p ∈ l, pM p = true) (hn : l.length ≤ 4096) : dZ l = kC (peL l) := by
  unfold dZ
  have : (l.any fun p => !pM p) = false := List.any_eq_false.2 fun p hp => by simp [h p hp]
  rw [this]
  have h2 : decide (4096 < l.length) = false := by simp; omega
  rw [h2]
  simp only [Bool.false_eq_true, if_false]

theorem aAH {x : List aC} (ht : pP x = true) : ∀ g ∈ groups x, EZ 0 g.2 := fun _ hg => IB (rP ht hg).1 (rP ht hg).2

theorem YV {x : List aC} (ht : pP x = true) (hm : nA (groups x) ≤ 4096) : dZ (tU (groups x)) = (x, 0) := by
  have hl := MX (groups x)
  have hmay := (qM.1 ht).1
  have hs := (qX hmay).2.2
  rw [VH (fun p hp => NN ht hp) (by omega)]
  obtain ⟨u1, u2⟩ := aEO fun p hp => NN ht hp
  refine aDq u1 u2 hmay fun r => ?_
  obtain ⟨v1, v2⟩ := FW u1 u2 r
  refine aDw v1 v2 (EB hmay r) fun t h1 h2 => ?_
  rw [UF h2 hs (aAH ht), RN hmay]

theorem val_last {f : List aA} (t : Int) : val f t - val f (t - 1) = ((f.filter fun j => decide (j.At = t)).map aA.Net).sum := by
  induction f with
  | nil => rfl
  | cons j f ih =>
    rw [cK, cK]
    by_cases e : j.At = t
    · rw [List.filter_cons_of_pos (by simpa using e), if_pos (by omega), if_neg (by omega), List.map_cons, List.sum_cons, ← ih]; omega
    · rw [List.filter_cons_of_neg (by simpa using e), ← ih]
      by_cases h : j.At ≤ t
      · rw [if_pos h, if_pos (by omega)]; omega
      · rw [if_neg h, if_neg (by omega)]; omega

theorem ZK : ∀ f : List aA, (f.map aA.Net).sum ≤ dL f
  | [] => by simp [dL]
  | j :: f => by rw [List.map_cons, List.sum_cons, nP]; have := ZK f; split <;> omega

theorem OS (p : aA → Bool) : ∀ f : List aA, dL f = dL (f.filter p) + dL (f.filter fun j => !p j)
  | [] => rfl
  | j :: f => by
    rw [nP, OS p f]
    cases h : p j
    · rw [List.filter_cons_of_neg (by simp [h]), List.filter_cons_of_pos (by simp [h]), nP]; omega
    · rw [List.filter_cons_of_pos (by simp [h]), List.filter_cons_of_neg (by simp [h]), nP]; omega

theorem LO {f : List aA} {p t : Int} (h : p ≤ t) : val (f.filter fun j => !decide (j.At = p)) t = val f t - (val f p - val f (p - 1)) := by
  induction f with
  | nil => simp [val]
  | cons j f ih =>
    rw [cK, cK, cK]
    by_cases e : j.At = p
    · rw [List.filter_cons_of_neg (by simp [e]), ih, if_pos (by omega), if_pos (by omega), if_neg (by omega)]; omega
    · rw [List.filter_cons_of_pos (by simp [e]), cK, ih]
      by_cases h2 : j.At ≤ p
      · rw [if_pos (by omega), if_pos h2, if_pos (by omega)]; omega
      · rw [if_neg h2, if_neg (show ¬ j.At ≤ p - 1 by omega)]; omega

theorem aBg : ∀ {g f : List aA} {last : Int}, Up last g → (∀ t, last < t → t < 1125899906842624 → val g t - val g last = val f t - val f last) → dL g ≤ dL f
  | [], f, _, _, _ => by rw [show dL [] = 0 from rfl]; exact rJ f
  | j :: g, f, last, hu, hv => by
    have hj := hu.1
    rw [nP, OS (fun k => decide (k.At = j.At)) f]
    have h0 : val (j :: g) last = 0 := hu.yQ (Int.le_refl _)
    have hjn : j.Net = ((f.filter fun k => decide (k.At = j.At)).map aA.Net).sum := by
      rw [← val_last]
      have h1 := hv j.At hj.1 hj.2.1
      have g1 : val (j :: g) j.At = j.Net := by rw [cK, if_pos (Int.le_refl _), hu.2.yQ (Int.le_refl _)]; omega
      by_cases hl : last < j.At - 1
      · have h2 := hv (j.At - 1) hl (by omega)
        have g2 : val (j :: g) (j.At - 1) = 0 := by rw [cK, if_neg (by omega), hu.2.yQ (by omega)]; omega
        omega
      · have : j.At - 1 = last := by omega
        rw [this]; omega
    have ih := aBg (g := g) (f := f.filter fun k => !decide (k.At = j.At)) (last := j.At) hu.2 fun t h1 h2 => by
      have a1 := hv t (by omega) h2
      have a2 := hv j.At hj.1 hj.2.1
      have b1 : val (j :: g) t = j.Net + val g t := by rw [cK, if_pos (by omega)]
      have b2 : val (j :: g) j.At = j.Net + val g j.At := by rw [cK, if_pos (Int.le_refl _)]
      rw [LO (by omega), LO (Int.le_refl _)]
      omega
    have h3 := ZK (f.filter fun k => decide (k.At = j.At))
    have h4 := rJ (f.filter fun k => decide (k.At = j.At))
    split <;> omega

theorem aCT {f : List aA} (ht : ∀ j ∈ f, -2 < j.At) : dL (AY f) ≤ dL f :=
  aBg (KO ht) fun t h1 h2 => by
    rw [NS ht h1 h2, (KO ht).yQ (Int.le_refl _), CR (f := f) (t := -2) fun j hj => ht j hj]

def ofRow (r : List aG) (l : List aM) : Nat := (l.filter fun p => decide (p.Row = r)).length

theorem aA8 (r : List aG) : ∀ l : List aM, dL (bW (peL l) r) = (ofRow r l : Nat)
  | [] => rfl
  | p :: l => by
    rw [EL, qW, XN, aA8 r l]
    unfold ofRow
    by_cases e : p.Row = r
    · rw [List.filter_cons_of_pos (by simpa using e)]
      simp [bW, e, jE, dL]
      omega
    · rw [List.filter_cons_of_neg (by simpa using e)]
      simp [bW, e, dL]

theorem SP {α : Type} (p : α → Bool) : ∀ l : List α, (l.filter p).length + (l.filter fun x => !p x).length = l.length
  | [] => rfl
  | a :: l => by
    have := SP p l
    cases h : p a
    · rw [List.filter_cons_of_neg (by simp [h]), List.filter_cons_of_pos (by simp [h])]; simp only [List.length_cons]; omega
    · rw [List.filter_cons_of_pos (by simp [h]), List.filter_cons_of_neg (by simp [h])]; simp only [List.length_cons]; omega

theorem UO : ∀ {rs : List (List aG)}, rs.Nodup → ∀ l : List aM, (rs.map fun r => ofRow r l).sum ≤ l.length
  | [], _, l => by simp
  | r :: rs, hn, l => by
    have hn' := List.nodup_cons.1 hn
    have h1 := UO hn'.2 (l.filter fun p => !decide (p.Row = r))
    have h2 : (rs.map fun q => ofRow q l) = rs.map fun q => ofRow q (l.filter fun p => !decide (p.Row = r)) := by
      refine List.map_congr_left fun q hq => ?_
      have hne : q ≠ r := fun e => hn'.1 (e ▸ hq)
      unfold ofRow
      rw [List.filter_filter]
      congr 1
      refine List.filter_congr fun p _ => ?_
      by_cases e : p.Row = q
      · have : p.Row ≠ r := fun h => hne (e ▸ h)
        simp [e, hne]
      · simp [e]
    rw [List.map_cons, List.sum_cons, h2]
    have h3 : ofRow r l + (l.filter fun p => !decide (p.Row = r)).length = l.length := by
      unfold ofRow
      exact SP _ l
    omega

theorem aBI {rs : List (List aG)} (h : KR rs) : rs.Nodup := by
  unfold List.Nodup
  exact h.imp fun {a b} hab e => by subst e; exact nN hab

theorem FT {l : List aM} (h : (dZ l).2 = 0) : (∀ p ∈ l, pM p = true) ∧ l.length ≤ 4096 ∧ dZ l = kC (peL l) := by
  unfold dZ at h
  split at h
  · simp at h
  · rename_i h1
    split at h
    · simp at h
    · rename_i h2
      have a : ∀ p ∈ l, pM p = true := fun p hp => by
        rw [Bool.not_eq_true, List.any_eq_false] at h1
        simpa using h1 p hp
      have b : l.length ≤ 4096 := by simp at h2; omega
      exact ⟨a, b, VH a b⟩

def JE (r : List aG) (t : Int) (l : List aM) : Int := (l.map fun p => if p.Row = r ∧ p.Span.From ≤ t ∧ t < p.Span.To then 1 else 0).sum

theorem PB (r : List aG) (t : Int) (p : aM) (l : List aM) : JE r t (p :: l) = (if p.Row = r ∧ p.Span.From ≤ t ∧ t < p.Span.To then 1 else 0) + JE r t l := by simp [JE]

theorem LW (r : List aG) (t : Int) : ∀ l, 0 ≤ JE r t l
  | [] => by simp [JE]
  | p :: l => by rw [PB]; have := LW r t l; split <;> omega

theorem aCu {r : List aG} {t : Int} : ∀ {l : List aM}, (∀ p ∈ l, pM p = true) → val (bW (peL l) r) t = JE r t l
  | [], _ => rfl
  | p :: l, h => by
    rw [EL, qW, DE, aCu fun q hq => h q (by simp [hq]), PB]
    have hm := h p (by simp)
    unfold pM at hm
    rw [Bool.and_eq_true, MO] at hm
    by_cases e : p.Row = r
    · have : bW [⟨p.Row, p.Span.From, 1⟩, ⟨p.Row, p.Span.To, -1⟩] r = [⟨p.Span.From, 1⟩, ⟨p.Span.To, -1⟩] := by simp [bW, e, jE]
      rw [this, cK, cK, qY]
      simp only [e, true_and]
      split <;> split <;> split <;> omega
    · have : bW [⟨p.Row, p.Span.From, 1⟩, ⟨p.Row, p.Span.To, -1⟩] r = [] := by simp [bW, e]
      rw [this, qY, if_neg (by simp [e])]

theorem DC {l : List aM} (h : (dZ l).2 = 0) : pP (dZ l).1 = true := by
  obtain ⟨a, b, c⟩ := FT h
  rw [c] at h ⊢
  exact aAc h fun r t _ _ => by rw [aCu a]; exact LW ..

theorem PD {l : List aM} (h : (dZ l).2 = 0) : nA (groups (dZ l).1) ≤ l.length := by
  have ht := DC h
  have hmay := (qM.1 ht).1
  rw [← OZ hmay]
  have h1 : nA (rY (dZ l).1) ≤ (((rowsOf (dZ l).1).map fun r => ofRow r l).sum : Nat) := by
    unfold nA rY
    rw [List.map_map]
    induction rowsOf (dZ l).1 with
    | nil => simp
    | cons r rs ih =>
      simp only [List.map_cons, List.sum_cons, Function.comp]
      have : dL (bW (dZ l).1 r) ≤ (ofRow r l : Nat) := by
        obtain ⟨a, b, c⟩ := FT h
        have h' := h
        rw [c] at h' ⊢
        rw [PK h', ← aA8]
        exact aCT (HE h' r)
      omega
  have h2 := UO (aBI (KK (dZ l).1)) l
  omega

theorem QS {l : List aM} : oO l = if (dZ l).2 = 0 then (tU (groups (dZ l).1), 0) else ([], (dZ l).2) := by
  unfold oO
  by_cases h : (dZ l).2 = 0
  · rw [if_neg (by simp [h]), if_pos h]
    have ht := DC h
    have hm := PD h
    have hn := (FT h).2.1
    unfold GZ
    rw [(qM.1 ht).1, ht]
    have : decide (4096 < nA (groups (dZ l).1)) = false := by simp; omega
    rw [this]
    simp only [Bool.not_true, Bool.false_eq_true, if_false]
  · rw [if_pos h, if_neg h]

theorem XM {l : List aM} (h : (oO l).2 = 0) : (dZ l).2 = 0 ∧ oO l = (tU (groups (dZ l).1), 0) ∧ dZ (oO l).1 = ((dZ l).1, 0) ∧ (oO l).1.length ≤ l.length := by
  rw [QS] at h
  split at h
  · rename_i he
    have hp : oO l = (tU (groups (dZ l).1), 0) := by rw [QS, if_pos he]
    have hm := PD he
    have hn := (FT he).2.1
    have hl := MX (groups (dZ l).1)
    refine ⟨he, hp, ?_, by rw [hp]; simp only; omega⟩
    rw [hp]
    exact YV (DC he) (by omega)
  · rename_i he
    exact absurd h he

end Go.Abs
namespace Go.Abs
open Go
theorem uP (x y : aM) : x = y ↔ (x.Span.From = y.Span.From ∧ x.Span.To = y.Span.To) ∧ x.Row = y.Row := by
  obtain ⟨r, a, b⟩ := x
  obtain ⟨q, c, d⟩ := y
  simp only [aM.mk.injEq, aT.mk.injEq]
  constructor
  · rintro ⟨h1, h2, h3⟩; exact ⟨⟨h2, h3⟩, h1⟩
  · rintro ⟨⟨h2, h3⟩, h1⟩; exact ⟨h1, h2, h3⟩

theorem WW (x y : aM) (hl : x.Row.length ≤ 17592186044416) : qF x y = some (decide (x = y)) := by
  unfold qF
  rw [RS _ _ hl]
  by_cases h : x.Span.From = y.Span.From ∧ x.Span.To = y.Span.To
  · by_cases h2 : x.Row = y.Row
    · simp [h.1, h.2, h2, cP, uP]
    · simp [h.1, h.2, h2, cP, uP]
  · have : ((decide (x.Span.From = y.Span.From)) && ((decide (x.Span.To = y.Span.To)) && true)) = false := by
      simp only [Bool.and_true, Bool.and_eq_false_iff, decide_eq_false_iff_not]
      by_cases h1 : x.Span.From = y.Span.From
      · exact .inr fun h2 => h ⟨h1, h2⟩
      · exact .inl h1
    have hn : ¬ x = y := fun e => h ((uP x y).1 e).1
    rw [this]; simp [cP, hn]

theorem ON {a b : List aM} (hl : okP a) : tN a b = some (decide (a = b)) := by
  unfold tN dF
  have hlen := hl.1
  by_cases he : a.length = b.length
  · rw [NC he, cond_false]
    unfold dD
    have := OD (f := a) (g := b) (body := fun s => cG (fun y0 y1 => qF y0 y1) b a (a.length : Nat) s) he ?_ ?_ a.length 0 rfl (Nat.zero_le _)
    · simp only [Int.natCast_zero, List.drop_zero] at this
      rw [this]
      by_cases h : a = b <;> simp [h, cR]
    · intro i x y hx hy
      obtain ⟨d1, d2, d3, d4⟩ := idx hx (by omega)
      obtain ⟨_, e2, e3, _⟩ := idx hy (by omega)
      have hr := hl.2 x (List.mem_of_getElem? hx)
      simp only [cG, d1, cond_true, aX d2, aX e2, d3, e3, d4, WW x y (by omega), Option.bind_some]
      by_cases h : x = y <;> simp [h]
    · simp only [cG, cY, cond_false]
  · rw [MC he, cond_true]
    have : a ≠ b := fun h => he (by rw [h])
    simp [this]

theorem PN {a b : List aM} (hl : okP a) : rL a b = some (decide (a = b)) := by
  unfold rL
  have hlen := hl.1
  by_cases he : a.length = b.length
  · rw [NC he, cond_false]
    unfold AT
    have := OD (f := a) (g := b) (body := fun s => sO a b s) he ?_ ?_ a.length 0 rfl (Nat.zero_le _)
    · simp only [Int.natCast_zero, List.drop_zero] at this
      rw [this]
      by_cases h : a = b <;> simp [h, wT]
    · intro i x y hx hy
      obtain ⟨d1, d2, d3, d4⟩ := idx hx (by omega)
      obtain ⟨_, e2, e3, _⟩ := idx hy (by omega)
      have hr := hl.2 x (List.mem_of_getElem? hx)
      simp only [sO, d1, cond_true, aX d2, aX e2, d3, e3, d4]
      rw [aX fun _ => d2, aX fun _ => e2, AU _ _ (by omega)]
      by_cases h : x.Span.From = y.Span.From ∧ x.Span.To = y.Span.To
      · by_cases h2 : x.Row = y.Row
        · simp [h.1, h.2, h2, cP, uP]
        · simp [h.1, h.2, h2, cP, uP]
      · have : ((decide (x.Span.From = y.Span.From)) && ((decide (x.Span.To = y.Span.To)) && true)) = false := by
          simp only [Bool.and_true, Bool.and_eq_false_iff, decide_eq_false_iff_not]
          by_cases h1 : x.Span.From = y.Span.From
          · exact .inr fun h2 => h ⟨h1, h2⟩
          · exact .inl h1
        have hn : ¬ x = y := fun e => h ((uP x y).1 e).1
        rw [this]; simp [cP, hn]
    · simp only [sO, cY, cond_false]
  · rw [MC he, cond_true]
    have : a ≠ b := fun h => he (by rw [h])
    simp [this]

def nD (a b : Int) : aM := ⟨[⟨1, 1, ByteArray.empty⟩], ⟨a, b⟩⟩

theorem aDf (a b : Int) : kI a b = some (nD a b) := rfl

theorem NL {l : List aM} (h : l.length ≤ 4096) (hr : ∀ e ∈ l, e.Row.length ≤ 8) : okP l := ⟨by omega, fun e he => by have := hr e he; omega⟩

theorem aD8 : oO [nD 5 9, nD 2 5] = ([nD 2 9], 0) := by decide +kernel

theorem aEw : oO [nD 1 10, nD 3 5] = ([nD 1 5, nD 3 10], 0) := by decide +kernel

theorem UM : uV = some true := by
  unfold uV
  simp only [aDf, Option.bind_some]
  rw [QJ (l := [nD 5 9, nD 2 5]) (NL (by simp) (by simp [nD])) (by simp), aD8]
  simp only [Option.bind_some]
  rw [QJ (l := [nD 1 10, nD 3 5]) (NL (by simp) (by simp [nD])) (by simp), aEw]
  simp only [Option.bind_some]
  have g1 : tN [nD 2 9] [nD 2 9] = some (decide ([nD 2 9] = [nD 2 9])) := ON (NL (by simp) (by simp [nD]))
  have g2 : rL [nD 1 5, nD 3 10] [nD 1 5, nD 3 10] = some (decide ([nD 1 5, nD 3 10] = [nD 1 5, nD 3 10])) := PN (NL (by simp) (by simp [nD]))
  have h1 : pM (nD (-1) 0) = true := by decide +kernel
  have h2 : pM (nD 3 3) = false := by decide +kernel
  simp [cP, g1, g2, TN, h1, h2]

end Go.Abs
namespace Go.Abs
open Go
theorem aE7 {f : List aA} (hf : ∀ j ∈ f, j.Net ≤ 1048576 ∧ -1048576 ≤ j.Net) (hl : f.length ≤ 1024) : sX f [] [] 0 0 = rB f [] [] (dL f) := by
  unfold sX
  rw [iN (l := f) (body := fun s : List Int × List Int × Int × Int => mA f s.1 s.2.1 s.2.2.1 s.2.2.2) (fun n i => ([], [], n, i)) (fun n r => ([], [], n + dL r)) (fun n r => 0 ≤ n ∧ n + 1048576 * r.length ≤ 1073741824 ∧ ∀ j ∈ r, j ∈ f) 0 ?_ ?_ ⟨by omega, by omega, fun _ h => h⟩]
  · simp
  · intro i a r n ha hi
    left
    obtain ⟨d1, d2, d3, d4⟩ := idx ha (by omega)
    obtain ⟨h0, h1, h2⟩ := hi
    have ha2 := hf a (h2 a (by simp))
    simp only [List.length_cons] at h1
    show ∃ s', mA _ _ _ _ _ = _ ∧ _
    simp only [mA, d1, cond_true, aX d2, d3]
    by_cases h : 0 < a.Net
    · refine ⟨n + a.Net, ?_, ⟨by omega, by omega, fun j hj => h2 j (by simp [hj])⟩, by rw [nP, if_pos h, Int.add_assoc]⟩
      simp only [h, decide_true, cond_true, pZ, d4]
      rw [dW (by omega) (by omega)]
    · refine ⟨n, ?_, ⟨by omega, by omega, fun j hj => h2 j (by simp [hj])⟩, by rw [nP, if_neg h, Int.zero_add]⟩
      simp only [h, decide_false, cond_false, pZ, d4]
  · intro n _
    show mA _ _ _ _ _ = _
    simp only [mA, cY, cond_false]
    simp [dL]

theorem VM {f : List aA} {i : Int} {j : aA} {E : List Int} (d2 : 0 ≤ i ∧ i < ((List.length f : Nat) : Int)) (d3 : List.getD f (Int.toNat i) default = j) (hN : j.Net ≤ 1048576) : ∀ (n k : Nat) (B : List Int), j.Net.toNat = k + n → B.length + n ≤ 1000000 →
    lp (fun s : List Int × List Int × Int => lZ f i s.1 s.2.1 s.2.2) (B, E, (k : Int)) = some (B ++ List.replicate n j.At, E)
  | 0, k, B, h, _ => cT (by
      show lZ _ _ _ _ _ = _
      have : decide ((k : Int) < j.Net) = false := by simp; omega
      simp only [lZ, aX d2, d3, this, cond_false]
      simp)
  | n + 1, k, B, h, hB => by
    rw [dQ (s' := (B ++ [j.At], E, ((k + 1 : Nat) : Int))) ?_, VM d2 d3 hN n (k + 1) (B ++ [j.At]) (by omega) (by simp; omega)]
    · rw [List.append_assoc]; rfl
    · show lZ _ _ _ _ _ = _
      have : decide ((k : Int) < j.Net) = true := by simp; omega
      simp only [lZ, aX d2, d3, this, cond_true]
      rw [aX (by simp only [List.length_cons, List.length_nil]; omega), dW (by omega) (by omega)]
      rfl

theorem aAP {f : List aA} {i : Int} {j : aA} {B : List Int} (d2 : 0 ≤ i ∧ i < ((List.length f : Nat) : Int)) (d3 : List.getD f (Int.toNat i) default = j) (hN : -1048576 ≤ j.Net ∧ j.Net ≤ 1048576) : ∀ (n k : Nat) (E : List Int), (-j.Net).toNat = k + n → E.length + n ≤ 1000000 →
    lp (fun s : List Int × List Int × Int => mS f i s.1 s.2.1 s.2.2) (B, E, (k : Int)) = some (B, E ++ List.replicate n j.At)
  | 0, k, E, h, _ => cT (by
      show mS _ _ _ _ _ = _
      have : decide ((k : Int) < IntKind.i64.wrap (0 - j.Net)) = false := by rw [dW (by omega) (by omega)]; simp; omega
      simp only [mS, aX d2, d3, this, cond_false]
      simp)
  | n + 1, k, E, h, hB => by
    rw [dQ (s' := (B, E ++ [j.At], ((k + 1 : Nat) : Int))) ?_, aAP d2 d3 hN n (k + 1) (E ++ [j.At]) (by omega) (by simp; omega)]
    · rw [List.append_assoc]; rfl
    · show mS _ _ _ _ _ = _
      have : decide ((k : Int) < IntKind.i64.wrap (0 - j.Net)) = true := by rw [dW (by omega) (by omega)]; simp; omega
      simp only [mS, aX d2, d3, this, cond_true]
      rw [aX (by simp only [List.length_cons, List.length_nil]; omega), dW (by omega) (by omega)]
      rfl

theorem aCF (B E : List Int) (hB : B.length ≤ 1000000) (hE0 : E.length ≤ 1000000) : tW B E [] 0 = some (pairs 1125899906842624 B E, 0) := by
  unfold tW
  have key : ∀ (n : Nat) (k : Nat) (o : List aT), B.length - k = n → k ≤ B.length → o.length = k →
      lp (fun s : List Int × List Int × List aT × Int => jV s.1 s.2.1 s.2.2.1 s.2.2.2) (B, E, o, (k : Int)) = some (o ++ pairs 1125899906842624 (B.drop k) (E.drop k)) := by
    intro n
    induction n with
    | zero =>
      intro k o h1 h2 h3
      have : k = B.length := by omega
      subst this
      refine cT ?_
      show jV _ _ _ _ = _
      simp only [jV, cY, cond_false]
      simp [pairs]
    | succ n ih =>
      intro k o h1 h2 h3
      have hk : k < B.length := by omega
      obtain ⟨d1, d2, d3, d4⟩ := idx (List.getElem?_eq_getElem hk) (by omega)
      have hd : B.drop k = B[k] :: B.drop (k + 1) := List.drop_eq_getElem_cons hk
      by_cases hE : k < E.length
      · obtain ⟨e1, e2, e3, _⟩ := idx (List.getElem?_eq_getElem hE) (by omega)
        have he : E.drop k = E[k] :: E.drop (k + 1) := List.drop_eq_getElem_cons hE
        rw [dQ (s' := (B, E, o ++ [⟨B[k], E[k]⟩], ((k + 1 : Nat) : Int))) ?_, ih (k + 1) _ (by omega) (by omega) (by simp [h3]), hd, he]
        · rw [pairs, List.append_assoc]; rfl
        · show jV _ _ _ _ = _
          simp only [jV, d1, cond_true, aX d2, d3, e1, aX e2, e3, rE, d4]
          rw [aX (by simp only [List.length_cons, List.length_nil]; omega)]
      · have e1 : decide ((k : Int) < ((List.length E : Nat) : Int)) = false := by simp; omega
        have he : E.drop k = [] := List.drop_eq_nil_of_le (by omega)
        have he2 : E.drop (k + 1) = [] := List.drop_eq_nil_of_le (by omega)
        rw [dQ (s' := (B, E, o ++ [⟨B[k], 1125899906842624⟩], ((k + 1 : Nat) : Int))) ?_, ih (k + 1) _ (by omega) (by omega) (by simp [h3]), hd, he, he2]
        · rw [pairs, List.append_assoc]; rfl
        · show jV _ _ _ _ = _
          simp only [jV, d1, cond_true, aX d2, d3, e1, cond_false, rE, d4]
          rw [aX (by simp only [List.length_cons, List.length_nil]; omega)]
  have := key B.length 0 [] (by omega) (by omega) rfl
  simp only [Int.natCast_zero, List.drop_zero, List.nil_append] at this
  rw [this]
  rfl

theorem aE8 {f : List aA} (hf : ∀ j ∈ f, j.Net ≤ 1048576 ∧ -1048576 ≤ j.Net) (hl : f.length ≤ 1024) (h1 : (lM f).length ≤ 1000000) (h2 : (ends f).length ≤ 1000000) : tZ f [] [] 0 = uO (lM f) (ends f) := by
  unfold tZ
  rw [iN (l := f) (body := fun s : List Int × List Int × Int => mV f s.1 s.2.1 s.2.2) (fun (s : List Int × List Int) i => (s.1, s.2, i)) (fun s r => (s.1 ++ lM r, s.2 ++ ends r)) (fun s r => s.1.length + (lM r).length ≤ 1000000 ∧ s.2.length + (ends r).length ≤ 1000000 ∧ ∀ j ∈ r, j ∈ f) ([], []) ?_ ?_ ⟨by simpa using h1, by simpa using h2, fun _ h => h⟩]
  · simp
  · intro i a r s ha hi
    obtain ⟨B, E⟩ := s
    left
    obtain ⟨d1, d2, d3, d4⟩ := idx ha (by omega)
    obtain ⟨g1, g2, g3⟩ := hi
    have ha2 := hf a (g3 a (by simp))
    rw [mD, List.length_append, List.length_replicate] at g1
    rw [yP, List.length_append, List.length_replicate] at g2
    simp only at g1 g2
    refine ⟨(B ++ List.replicate a.Net.toNat a.At, E ++ List.replicate (-a.Net).toNat a.At), ?_, ⟨by simp only [List.length_append, List.length_replicate]; omega, by simp only [List.length_append, List.length_replicate]; omega, fun j hj => g3 j (by simp [hj])⟩, by simp [mD, yP]⟩
    show mV _ _ _ _ = _
    simp only [mV, d1, cond_true, xK]
    have p1 := VM (E := E) d2 d3 ha2.1 a.Net.toNat 0 B (by omega) (by omega)
    have p2 := aAP (B := B ++ List.replicate a.Net.toNat a.At) d2 d3 ⟨ha2.2, ha2.1⟩ (-a.Net).toNat 0 E (by omega) (by omega)
    simp only [Int.natCast_zero] at p1 p2
    rw [p1]
    simp only [Option.bind_some, uD, zB]
    rw [p2]
    simp only [Option.bind_some, tY, d4]
  · intro s _
    show mV _ _ _ _ = _
    simp only [mV, cY, cond_false]
    simp [lM, ends]

theorem aAk (f : List aA) : vO f = some (SF f) := by
  unfold vO SF
  rw [HY]
  simp only [Option.bind_some]
  by_cases hm : fL f = true
  · rw [OJ, hm]
    simp only [Bool.not_true, cond_false, if_true, Option.bind_some, Bool.false_eq_true, if_false]
    by_cases h2 : tA f < 0
    · simp [h2]
    · have hl := (kK.1 hm).1
      simp only [h2, decide_false, cond_false, Bool.false_eq_true, if_false]
      rw [aE7 (CG hm) hl]
      unfold rB
      by_cases h3 : 4096 < dL f
      · simp [h3]
      · simp only [h3, decide_false, cond_false, Bool.false_eq_true, if_false]
        have hb : (lM f).length ≤ 4096 := by have := DO f; omega
        have he := aBk (IB hm ((CM hm).1 (by omega)))
        rw [aE8 (CG hm) hl (by omega) (by omega)]
        exact aCF _ _ (by omega) (by omega)
  · simp [hm]

end Go.Abs
namespace Go.Abs
open Go
theorem aEq {l0 : List aC} {rows : List (List aG)} {r : List aG} {i : Int} (d2 : 0 ≤ i ∧ i < ((List.length rows : Nat) : Int)) (d3 : List.getD rows (Int.toNat i) default = r) (hr : r.length ≤ 4398046510976) (ss : List aT) (out : List aM) (h : out.length + ss.length ≤ 1000000) : tF l0 out rows i ss 0 = pY l0 (out ++ tM r ss) rows i := by
  unfold tF
  rw [iN (l := ss) (body := fun s : List aM × Int => mC l0 rows i ss s.1 s.2) (fun o i => (o, i)) (fun o t => o ++ tM r t) (fun o t => o.length + t.length ≤ 1000000) out ?_ ?_ h]
  · rfl
  · intro k a t o ha hi
    left
    obtain ⟨e1, e2, e3, e4⟩ := idx ha (by omega)
    simp only [List.length_cons] at hi
    refine ⟨o ++ [⟨r, a⟩], ?_, by simp; omega, by simp [tM]⟩
    show mC _ _ _ _ _ _ = _
    simp only [mC, e1, cond_true, aX d2, d3, aX e2, e3, e4]
    rw [aX (by omega)]
    exact aX (by simp only [List.length_cons, List.length_nil]; omega)
  · intro o _
    show mC _ _ _ _ _ _ = _
    simp only [mC, cY, cond_false]
    simp [tM]

theorem XB {l : List aC} (hl : okL l) : uH l = some (GZ l) := by
  unfold uH GZ
  rw [RX hl]
  cases hm : oJ l
  · simp
  · simp only [Option.bind_some, Bool.not_true, cond_false, YX hl, Bool.false_eq_true, if_false]
    cases ht : pP l
    · simp
    · have hn := (qX hm).1
      have hrows : ∀ e ∈ l, fC e.Row = true := fun e he => ((EJ.1 hm).2.1 e he).1
      simp only [Bool.not_true, cond_false, Bool.false_eq_true, if_false, GG hl hrows (show l.length ≤ 1099511627776 by omega), Option.bind_some, xJ]
      have hg : groups l = rY l := (OZ hm).symm
      have hrl := CY l
      rw [iN (l := rowsOf l) (body := fun s : List aM × Int => jZ l (rowsOf l) s.1 s.2) (fun o i => (o, i)) (fun o rs => if 4096 < (o.length : Int) + nA (rs.map fun r => (r, bW l r)) then .inr ([], 7) else .inl (o ++ tU (rs.map fun r => (r, bW l r)))) (fun o rs => o.length ≤ 4096 ∧ ∀ r ∈ rs, r ∈ rowsOf l) [] ?_ ?_ ⟨by simp, fun _ h => h⟩]
      · rw [hg]
        by_cases h7 : 4096 < nA (rY l)
        · have h7' : 4096 < nA ((rowsOf l).map fun r => (r, bW l r)) := h7
          simp [h7, h7']
        · have h7' : ¬ 4096 < nA ((rowsOf l).map fun r => (r, bW l r)) := h7
          simp [h7, h7', sQ, rY]
      · intro i r rs o hi hv
        obtain ⟨d1, d2, d3, d4⟩ := idx hi (by omega)
        have hr := hv.2 r (by simp)
        obtain ⟨e, he, hre⟩ := sR.1 hr
        have hr8 := (wX (hrows e he)).1
        rw [hre] at hr8
        have hgr : (r, bW l r) ∈ groups l := by rw [hg]; exact List.mem_map.2 ⟨r, hr, rfl⟩
        obtain ⟨g1, g2⟩ := rP ht hgr
        have g3 : ¬ tA (bW l r) < 0 := by have := (CM g1).2 g2; simp only at this; omega
        have hrest := DI (rs.map fun r => (r, bW l r))
        show (∃ s', jZ _ _ _ _ = _ ∧ _) ∨ jZ _ _ _ _ = _
        simp only [jZ, d1, cond_true, aX d2, d3, FE hl (show l.length ≤ 1099511627776 by omega), aAk, Option.bind_some, List.map_cons, DA, GX]
        have hs : SF (bW l r) = if 4096 < dL (bW l r) then ([], 7) else (qK (bW l r), 0) := by
          simp only at g1
          simp [SF, g1, g3]
        rw [hs]
        by_cases h7 : 4096 < dL (bW l r)
        · right
          have : (4096 : Int) < (o.length : Int) + (dL (bW l r) + nA (rs.map fun r => (r, bW l r))) := by omega
          simp [h7, this]
        · have hsl := KA (bW l r)
          simp only [h7, if_false, decide_true, Bool.not_true, cond_false]
          rw [aEq d2 d3 (by omega) _ _ (by omega)]
          simp only [pY, xL, d4]
          have hlen : (((o ++ tM r (qK (bW l r))).length : Nat) : Int) = (o.length : Int) + dL (bW l r) := by
            rw [List.length_append, tM, List.length_map]; omega
          rw [hlen]
          by_cases h8 : (4096 : Int) < (o.length : Int) + dL (bW l r)
          · right
            have : (4096 : Int) < (o.length : Int) + (dL (bW l r) + nA (rs.map fun r => (r, bW l r))) := by omega
            simp [h8, this]
          · left
            refine ⟨o ++ tM r (qK (bW l r)), by simp only [h8, decide_false, cond_false], ⟨by omega, fun q hq => hv.2 q (by simp [hq])⟩, ?_⟩
            rw [hlen, Int.add_assoc, List.append_assoc]
      · intro o hv
        show jZ _ _ _ _ = _
        have : ¬ (4096 : Int) < (o.length : Int) := by have := hv.1; omega
        simp only [jZ, cY, cond_false]
        simp [nA, tU]
        omega

theorem QY {p : aM} (hr : p.Row.length ≤ 4398046510976) : wV p = some (pM p) := by
  unfold wV pM
  rw [DS _ (by omega)]
  cases h : fC p.Row
  · simp
  · simp only [Option.bind_some, Bool.not_true, cond_false, Bool.true_and]
    by_cases h1 : p.Span.From = -1
    · simp only [h1, decide_true, cond_true, rS, Option.bind_some]
      congr 1
      unfold LG OC
      simp [h1]
    · simp only [h1, decide_false, cond_false, FJ, rS, Option.bind_some]
      unfold LG OC
      by_cases h2 : 0 ≤ p.Span.From ∧ p.Span.From ≤ 1125899906842624
      · simp [h1, h2, cP]
      · have : (decide (0 ≤ p.Span.From) && decide (p.Span.From ≤ 1125899906842624)) = false := by
          apply Classical.byContradiction
          intro hc
          simp only [Bool.not_eq_false, Bool.and_eq_true, decide_eq_true_eq] at hc
          exact h2 hc
        simp [this, h1, cP]

theorem MJ {l : List aM} (hl : okP l) (hn : l.length ≤ 1099511627776) : sM l = some (dZ l) := by
  unfold sM zL
  rw [DN (l := l) (fun i => (([] : List aC), i)) (fun p => !pM p) (.inr ([], 2)) (.inl []) ?_ ?_]
  · unfold dZ
    by_cases h : (l.any fun p => !pM p) = true
    · simp [h]
    · simp only [h, Bool.false_eq_true, if_false, Option.bind_some, Sum.elim_inl, uJ]
      by_cases h2 : 4096 < l.length
      · have h2' : decide ((4096 : Int) < ((l.length : Nat) : Int)) = true := by simp; omega
        simp only [h2', h2, cond_true, decide_true, if_true]
      · have h2' : decide ((4096 : Int) < ((l.length : Nat) : Int)) = false := by simp; omega
        simp only [h2', h2, decide_false, cond_false, Bool.false_eq_true, if_false, zC]
        rw [iN (l := l) (body := fun s : List aC × Int => mX l s.1 s.2) (fun o i => (o, i)) (fun o r => o ++ peL r) (fun o r => o.length + 2 * r.length ≤ 1000000) [] ?_ ?_ (by simp; omega)]
        · simp only [Option.bind_some, tX, List.nil_append]
          rw [aAw (TU hl (by omega)) (by rw [NX]; omega)]
          rfl
        · intro i a r o ha hi
          left
          obtain ⟨d1, d2, d3, d4⟩ := idx ha (by omega)
          simp only [List.length_cons] at hi
          refine ⟨o ++ [⟨a.Row, a.Span.From, 1⟩, ⟨a.Row, a.Span.To, -1⟩], ?_, by simp; omega, by simp [EL]⟩
          show mX _ _ _ = _
          simp only [mX, d1, cond_true, aX d2, d3, d4]
          rw [aX (by simp only [List.length_cons, List.length_nil]; omega), aX (by simp only [List.length_cons, List.length_nil, List.length_append]; omega), List.append_assoc]
          rfl
        · intro o _
          show mX _ _ _ = _
          simp only [mX, cY, cond_false]
          simp [peL]
  · intro i x hi
    obtain ⟨e1, e2, e3, e4⟩ := idx hi (by omega)
    show oV _ _ _ = _
    simp only [oV, e1, cond_true, aX e2, e3, e4, QY (hl.2 x (List.mem_of_getElem? hi)), Option.bind_some]
    cases pM x <;> rfl
  · show oV _ _ _ = _
    simp only [oV, cY, cond_false]

theorem aAJ {l : List aM} (hl : okP l) (hn : l.length ≤ 1099511627776) : yU l = some (oO l) := by
  unfold yU oO
  rw [MJ hl hn]
  simp only [Option.bind_some]
  by_cases h : (dZ l).2 = 0
  · simp [h, XB (LB hl)]
  · simp [h]

end Go.Abs
namespace Go.Abs
open Go
theorem aE6 {l : List aM} (m : ∀ a ∈ l, yH a) (y : List.length l * 40 ≤ 140737488351232) : okP l :=
  ⟨by omega, fun e he => by have := (m e he).1.2; omega⟩

theorem aDA {p : aM} (h : pM p = true) : p.Row.length ≤ 8 := by
  unfold pM at h
  rw [Bool.and_eq_true] at h
  exact (wX h.1).1

theorem aEE {l : List aM} (h : ∀ p ∈ l, pM p = true) (hn : l.length ≤ 1000000) : okP l :=
  ⟨by omega, fun e he => by have := aDA (h e he); omega⟩

theorem aC3 {l : List aM} (h : (oO l).2 = 0) : ∀ p ∈ (oO l).1, pM p = true := by
  obtain ⟨h1, h2, _, _⟩ := XM h
  rw [h2]
  exact fun p hp => NN (DC h1) hp

theorem aDJ {l : List aM} (h : (oO l).2 = 0) : (oO l).1.length ≤ 4096 := by
  obtain ⟨h1, _, _, h4⟩ := XM h
  have := (FT h1).2.1
  omega

theorem aCh {l : List aM} (h : (oO l).2 = 0) : okP (oO l).1 := aEE (aC3 h) (by have := aDJ h; omega)

end Go.Abs
namespace Go.Abs
open Go
theorem TV (l0 : (List aM)) (m0 : ∀ a ∈ l0, yH a) (y0 : List.length l0 * 40 ≤ 140737488351232) : tS l0 = some true := by
  have k0 := aE6 m0 y0
  unfold tS FC
  simp only [Option.bind_some]
  by_cases c : ((List.length l0 : Nat) : Int) ≤ 60
  · have hn : l0.length ≤ 1099511627776 := by omega
    have hok : okP (oO l0).1 := by
      by_cases e : (oO l0).2 = 0
      · exact aCh e
      · have : (oO l0).1 = [] := by
          rw [QS] at e ⊢
          split at e
          · simp at e
          · rename_i h; rw [if_neg h]
        rw [this]; exact NL (by simp) (by simp)
    simp only [c, decide_true, Bool.not_true, cond_false]
    rw [VP k0 hn, MJ k0 hn]
    simp only [Option.bind_some]
    rw [QJ k0 hn, aAJ k0 hn]
    simp only [Option.bind_some, sZ]
    rw [DN (l := l0) (fun i => i) (fun _ => false) (.inr false) (.inl ()) ?_ ?_]
    · simp [pO, UM, cP, aAy (LB k0), PN hok, ON hok]
    · intro i x hi
      obtain ⟨e1, e2, e3, e4⟩ := idx hi (by omega)
      show kH _ _ _ _ _ _ _ _ _ _ = _
      simp only [kH, e1, cond_true, aX e2, e3, e4, TN, QY (k0.2 x (List.mem_of_getElem? hi)), Option.bind_some]
      simp
    · show kH _ _ _ _ _ _ _ _ _ _ = _
      simp only [kH, cY, cond_false]
  · simp [c, UM]

end Go.Abs
