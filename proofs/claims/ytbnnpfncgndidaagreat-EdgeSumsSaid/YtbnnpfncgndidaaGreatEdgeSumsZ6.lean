/- What the law EdgeSums stands on: the framework, the given functions as plain functions, their walks, and the plain laws; part 6. -/
import Derived.Test.YtbnnpfncgndidaaGreatEdgeSumsZ5
set_option linter.unusedSimpArgs false
set_option linter.unusedVariables false
namespace Go.Abs
open Go
theorem aAr {σ : Type} {y : σ → List aH → List aA → Option (σ × Bool)} {l : List aC} (hl : okL l) : ∀ (m k : Nat) (sg s' : σ), l.length - k ≤ m → k ≤ l.length → itG y (groups (l.drop k)) sg = some s' →
    ∃ x, lp (fun s : σ × Int => fX y l s.1 s.2) (sg, (k : Int)) = some x ∧ Sum.elim id id x = s' := by
  have stop : ∀ (sg s' : σ), itG y (groups (l.drop l.length)) sg = some s' → ∃ x, lp (fun s : σ × Int => fX y l s.1 s.2) (sg, ((l.length : Nat) : Int)) = some x ∧ Sum.elim id id x = s' := by
    intro sg s' h
    rw [List.drop_length] at h
    simp only [groups, itG, Option.some.injEq] at h
    refine ⟨.inl sg, cL ?_, h⟩
    show fX _ _ _ _ = _
    simp only [fX, cX, cond_false]
  intro m
  induction m with
  | zero =>
    intro k sg s' hm hk h
    have : k = l.length := by omega
    subst this; exact stop sg s' h
  | succ m ih =>
    intro k sg s' hm hk h
    by_cases he : k = l.length
    · subst he; exact stop sg s' h
    · have hlt : k < l.length := by omega
      have hd : l.drop k = l[k] :: l.drop (k + 1) := List.drop_eq_getElem_cons hlt
      obtain ⟨d1, d2, d3, d4⟩ := idx (List.getElem?_eq_getElem hlt) (by have := hl.1; omega)
      obtain ⟨k', f', g1, g2, g3, g4, g5, g6⟩ := OF hl l[k].Row sg (l.drop k) k [] rfl hk (by simp) (y := y)
      have hk' := g6 _ _ hd rfl
      have hg : groups (l.drop k) = (l[k].Row, f') :: groups (l.drop k') := by
        rw [← g5, hd]; simp [groups, gA]
      rw [hg] at h
      simp only [itG] at h
      obtain ⟨x, hx, h⟩ := aV h
      have hrow := hl.2 _ (List.getElem_mem hlt)
      have hb : (fun s : σ × Int => fX y l s.1 s.2) (sg, (k : Int)) = some (if x.2 then .inl (x.1, ((k' : Nat) : Int)) else .inr (.inr x.1)) := by
        show fX _ _ _ _ = _
        simp only [fX, d1, cond_true, aQ d2, d3, tC, g4, Option.bind_some, qH, OG hrow, hx]
        cases x.2 <;> simp
      cases hx2 : x.2
      · rw [hx2] at hb h
        simp only [Bool.false_eq_true, if_false, Option.some.injEq] at hb h
        exact ⟨_, cL hb, h⟩
      · rw [hx2] at hb h
        simp only [if_true] at hb h
        obtain ⟨z, hz1, hz2⟩ := ih k' x.1 s' (by omega) g2 h
        exact ⟨z, by rw [eB hb]; exact hz1, hz2⟩

theorem XW {σ : Type} {y : σ → List aH → List aA → Option (σ × Bool)} {l : List aC} (hl : okL l) {s s' : σ} (h : itG y (groups l) s = some s') : oW y l s = some s' := by
  unfold oW tJ
  obtain ⟨x, h1, h2⟩ := aAr hl l.length 0 s s' (by omega) (Nat.zero_le _) (by simpa using h)
  simp only [Int.natCast_zero] at h1
  rw [h1]
  cases x <;> simpa using h2

def ahd (last : Option (List aH)) (r : List aH) : Bool := match last with
  | none => true
  | some q => decide (eE q r < 0)

def yH (p : List aA → Bool) : Option (List aH) → List (List aH × List aA) → Bool
  | _, [] => true
  | last, g :: gs => (fV g.1 && ahd last g.1 && p g.2) && yH p (some g.1) gs

theorem YC {holds : List aA → Option Bool} {p : List aA → Bool} (hp : ∀ f, holds f = some (p f)) (c : List aC) (t : Bool) : ∀ (gs : List (List aH × List aA)) (last : List aH) (b : Bool), (b = true → fV last = true) →
    ∃ x, itG (fun st r f => rnd (fun (s : Bool × (List aH) × Bool) => qP holds c s.1 s.2.1 s.2.2 r f) st) gs (.inl (t, last, b)) = some x ∧
      (if yH p (if b then some last else none) gs then ∃ u, x = .inl (t, u) else ∃ u, x = .inr (false, u))
  | [], last, b, _ => ⟨_, rfl, by simp [yH]⟩
  | g :: gs, last, b, hb => by
    have hy : qP holds c t last b g.1 g.2 = some (if fV g.1 && ahd (if b then some last else none) g.1 && p g.2 then .inl (t, g.1, true) else .inr (false, last, b)) := by
      unfold qP
      simp only [GR, Option.bind_some, QL, hp]
      cases hm : fV g.1
      · simp [cM]
      · cases b
        · cases h2 : p g.2 <;> simp [cM, ahd, h2]
        · have hl := hb rfl
          by_cases h1 : eE last g.1 < 0
          · have h1' : ¬ (0 ≤ eE last g.1) := by omega
            cases h2 : p g.2 <;> simp [cM, ahd, h2, hl, h1, h1']
          · have h1' : 0 ≤ eE last g.1 := by omega
            simp [cM, ahd, hl, h1, h1']
    cases hc : (fV g.1 && ahd (if b then some last else none) g.1 && p g.2)
    · rw [hc] at hy
      simp only [itG, rnd, hy, Option.bind_some, yH, hc]
      exact ⟨.inr (false, last, b), by simp, by simp⟩
    · rw [hc] at hy
      simp only [itG, rnd, hy, Option.bind_some, yH, hc]
      have hm : fV g.1 = true := by simp only [Bool.and_eq_true] at hc; exact hc.1.1
      obtain ⟨x, h1, h2⟩ := YC hp c t gs g.1 true (fun _ => hm)
      refine ⟨x, ?_, ?_⟩
      · simpa [rnd] using h1
      · simpa using h2

theorem YN {l : List aC} (hl : okL l) {holds : List aA → Option Bool} {p : List aA → Bool} (hp : ∀ f, holds f = some (p f)) : uR l holds = some (decide (l.length ≤ 4096) && yH p none (groups l)) := by
  unfold uR
  by_cases h : l.length ≤ 4096
  · have h1 : decide ((4096 : Int) < ((l.length : Nat) : Int)) = false := by simp; omega
    rw [h1, cond_false]
    simp only [uP, Option.bind_some, zZ]
    obtain ⟨x, e1, e2⟩ := YC hp l false (groups l) [] false (fun h => by cases h)
    rw [XW hl e1]
    simp only [Bool.false_eq_true, if_false] at e2
    simp only [h, decide_true, Bool.true_and]
    cases hc : yH p none (groups l)
    · rw [hc] at e2
      simp only [Bool.false_eq_true, if_false] at e2
      obtain ⟨u, rfl⟩ := e2
      rfl
    · rw [hc] at e2
      simp only [if_true] at e2
      obtain ⟨u, rfl⟩ := e2
      rfl
  · have h1 : decide ((4096 : Int) < ((l.length : Nat) : Int)) = true := by simp; omega
    rw [h1, cond_true]
    simp [h]

def pG (l : List aC) : Bool := decide (l.length ≤ 4096) && yH dD none (groups l)

theorem KR {l : List aC} (hl : okL l) : pK l = some (pG l) := by
  unfold pK
  rw [YN hl (p := dD) (fun f => CK f)]; rfl

def aB3 (f : List aA) : Bool := dD f && decide (0 ≤ ND f)

def aAR (l : List aC) : Bool := decide (l.length ≤ 4096) && yH aB3 none (groups l)

theorem aBd {l : List aC} (hl : okL l) : wK l = some (aAR l) := by
  unfold wK
  rw [YN hl (p := aB3) (fun f => by
    unfold sM aB3
    rw [CK]
    cases h : dD f <;> simp [cM, aBV, h])]
  rfl

def fS (r : List aH) (f : List aA) : List aC := f.map fun j => ⟨r, j.At, j.Net⟩

theorem put_eq {out : List aC} {r : List aH} {f : List aA} (hr : r.length ≤ 4398046510976) (hl : out.length + f.length ≤ 1099511627776) : AB out r f = some (out ++ fS r f) := by
  unfold AB CA
  rw [nC (l := f) (body := fun s : List aC × Int => pQ r f (f.length : Nat) s.1 s.2) (fun o i => (o, i)) (fun o t => o ++ fS r t) (fun o t => o.length + t.length ≤ 1099511627776) out ?_ ?_ hl]
  · rfl
  · intro i a t o ha hi
    left
    obtain ⟨d1, d2, d3, d4⟩ := idx ha (by have := (List.getElem?_eq_some_iff.1 ha).1; omega)
    simp only [List.length_cons] at hi
    refine ⟨o ++ [⟨r, a.At, a.Net⟩], ?_, by simp; omega, by simp [fS]⟩
    show pQ _ _ _ _ _ = _
    simp only [pQ, d1, cond_true, aQ d2, d3, d4, OG hr, Option.bind_some]
    exact aQ (by simp only [List.length_cons, List.length_nil]; omega)
  · intro o _
    show pQ _ _ _ _ _ = _
    simp only [pQ, cX, cond_false]
    simp [fS]

def rU (by1 : List aA → List aA × Int) : List (List aH × List aA) → List aC → List aC × Int
  | [], out => (out, 0)
  | g :: gs, out => if (by1 g.2).2 ≠ 0 then ([], (by1 g.2).2) else if 4096 < (out ++ fS g.1 (by1 g.2).1).length then ([], 7) else rU by1 gs (out ++ fS g.1 (by1 g.2).1)

theorem PY {by0 : List aA → Option (List aA × Int)} {by1 : List aA → List aA × Int} (c : List aC) : ∀ (gs : List (List aH × List aA)) (out : List aC), out.length ≤ 4096 → (∀ g ∈ gs, by0 g.2 = some (by1 g.2) ∧ (by1 g.2).1.length ≤ 1024 ∧ g.1.length ≤ 4398046510976) →
    ∃ x, itG (fun st r f => rnd (fun (s : (List aC) × Int × List aC) => nZ by0 c s.1 s.2.1 s.2.2 r f) st) gs (.inl ([], 0, out)) = some x ∧ Sum.elim (fun s : (List aC) × Int × List aC => (s.2.2, (0 : Int))) (fun s => (s.1, s.2.1)) x = rU by1 gs out
  | [], out, _, _ => ⟨_, rfl, rfl⟩
  | g :: gs, out, ho, hg => by
    obtain ⟨h1, h2, h3⟩ := hg g (by simp)
    have hy : nZ by0 c [] 0 out g.1 g.2 = some (if (by1 g.2).2 ≠ 0 then .inr ([], (by1 g.2).2, out) else if 4096 < (out ++ fS g.1 (by1 g.2).1).length then .inr ([], 7, out ++ fS g.1 (by1 g.2).1) else .inl ([], 0, out ++ fS g.1 (by1 g.2).1)) := by
      unfold nZ
      simp only [h1, Option.bind_some, put_eq h3 (show out.length + (by1 g.2).1.length ≤ 1099511627776 by omega)]
      by_cases e1 : (by1 g.2).2 = 0
      · by_cases e2 : 4096 < (out ++ fS g.1 (by1 g.2).1).length
        · have e2' : (4096 : Int) < (((out ++ fS g.1 (by1 g.2).1).length : Nat) : Int) := by omega
          simp only [e1, e2, e2', decide_true, Bool.not_true, cond_false, cond_true, ne_eq, not_true_eq_false, if_false, if_true]
        · have e2' : ¬ (4096 : Int) < (((out ++ fS g.1 (by1 g.2).1).length : Nat) : Int) := by omega
          simp only [e1, e2, e2', decide_true, decide_false, Bool.not_true, cond_false, ne_eq, not_true_eq_false, if_false]
      · simp only [e1, decide_false, Bool.not_false, cond_true, ne_eq, not_false_eq_true, if_true]
    simp only [itG, rnd, hy, Option.bind_some, rU]
    by_cases e1 : (by1 g.2).2 ≠ 0
    · rw [if_pos e1, if_pos e1]; exact ⟨_, rfl, rfl⟩
    · rw [if_neg e1, if_neg e1]
      by_cases e2 : 4096 < (out ++ fS g.1 (by1 g.2).1).length
      · rw [if_pos e2, if_pos e2]; exact ⟨_, rfl, rfl⟩
      · rw [if_neg e2, if_neg e2]
        exact PY c gs _ (by omega) (fun q hq => hg q (by simp [hq]))

theorem QW {l : List aC} (hl : okL l) {by0 : List aA → Option (List aA × Int)} {by1 : List aA → List aA × Int} (hb : ∀ g ∈ groups l, by0 g.2 = some (by1 g.2) ∧ (by1 g.2).1.length ≤ 1024 ∧ g.1.length ≤ 4398046510976) : rA l by0 = some (rU by1 (groups l) []) := by
  unfold rA
  simp only [uP, Option.bind_some, wW]
  obtain ⟨x, e1, e2⟩ := PY (by0 := by0) (by1 := by1) l (groups l) [] (by simp) hb
  rw [XW hl e1]
  cases x <;> simpa using e2

def flat (gs : List (List aH × List aA)) : List aC := gs.flatMap fun g => fS g.1 g.2

theorem PI : ∀ (l : List aC) (r : List aH) (f : List aA), flat (gA r f l) = fS r f ++ l
  | [], r, f => by simp [gA, flat]
  | e :: l, r, f => by
    unfold gA
    split
    · rename_i h
      rw [PI l r]
      simp [fS, jE, ← h]
    · have := PI l e.Row [jE e]
      simp only [flat, List.flatMap_cons] at this ⊢
      rw [this]
      simp [fS, jE]

theorem BP (l : List aC) : flat (groups l) = l := by
  cases l with
  | nil => rfl
  | cons e l => unfold groups; rw [PI]; simp [fS, jE]

theorem TJ {r : List aH} : ∀ {l : List aC} {f : List aA} {g : List aH × List aA}, g ∈ gA r f l → f ≠ [] → g.2 ≠ [] ∧ (g.1 = r ∨ ∃ e ∈ l, g.1 = e.Row)
  | [], f, g, h, hf => by simp only [gA, List.mem_singleton] at h; subst h; exact ⟨hf, .inl rfl⟩
  | e :: l, f, g, h, hf => by
    unfold gA at h
    split at h
    · obtain ⟨h1, h2⟩ := TJ h (by simp)
      exact ⟨h1, h2.imp id fun ⟨x, hx, hx'⟩ => ⟨x, by simp [hx], hx'⟩⟩
    · rcases List.mem_cons.1 h with rfl | h
      · exact ⟨hf, .inl rfl⟩
      · obtain ⟨h1, h2⟩ := TJ (r := e.Row) h (by simp)
        refine ⟨h1, .inr ?_⟩
        rcases h2 with h2 | ⟨x, hx, hx'⟩
        · exact ⟨e, by simp, h2⟩
        · exact ⟨x, by simp [hx], hx'⟩

theorem IC {l : List aC} {g : List aH × List aA} (h : g ∈ groups l) : g.2 ≠ [] ∧ ∃ e ∈ l, g.1 = e.Row := by
  cases l with
  | nil => simp [groups] at h
  | cons e l =>
    obtain ⟨h1, h2⟩ := TJ h (by simp)
    refine ⟨h1, ?_⟩
    rcases h2 with h2 | ⟨x, hx, hx'⟩
    · exact ⟨e, by simp, h2⟩
    · exact ⟨x, by simp [hx], hx'⟩

end Go.Abs
namespace Go.Abs
open Go
def cK (l : List aC) (r : List aH) : List aA := (l.filter fun e => decide (e.Row = r)).map jE

theorem GF (a b : List aC) (r : List aH) : cK (a ++ b) r = cK a r ++ cK b r := by simp [cK]

theorem RP (q : List aH) (f : List aA) (r : List aH) : cK (fS q f) r = if q = r then f else [] := by
  induction f with
  | nil => simp [cK, fS]
  | cons j f ih =>
    have h1 : fS q (j :: f) = [⟨q, j.At, j.Net⟩] ++ fS q f := rfl
    rw [h1, GF, ih]
    by_cases h : q = r <;> simp [cK, jE, h]

def look : List (List aH × List aA) → List aH → List aA
  | [], _ => []
  | g :: gs, r => if g.1 = r then g.2 else look gs r

theorem EY (g : List aH × List aA) (gs : List (List aH × List aA)) (r : List aH) : look (g :: gs) r = if g.1 = r then g.2 else look gs r := rfl

abbrev ltG (a b : List aH × List aA) : Prop := eE a.1 b.1 < 0

abbrev MA (gs : List (List aH × List aA)) : Prop := gs.Pairwise ltG

theorem zB {a : List aH} : ¬ eE a a < 0 := by rw [(lG.eq a a).2 rfl]; omega

theorem QM : ∀ {gs : List (List aH × List aA)} {r : List aH}, (∀ g ∈ gs, g.1 ≠ r) → look gs r = []
  | [], _, _ => rfl
  | g :: gs, r, h => by
    rw [EY]
    rw [if_neg (h g (by simp))]
    exact QM fun q hq => h q (by simp [hq])

theorem ZX (gs : List (List aH × List aA)) (r : List aH) : (look gs r = [] ∧ ∀ g ∈ gs, g.1 ≠ r) ∨ ∃ g ∈ gs, g.1 = r ∧ look gs r = g.2 := by
  induction gs with
  | nil => exact .inl ⟨rfl, by simp⟩
  | cons g gs ih =>
    rw [EY]
    by_cases h : g.1 = r
    · rw [if_pos h]; exact .inr ⟨g, by simp, h, rfl⟩
    · rw [if_neg h]
      rcases ih with ⟨h1, h2⟩ | ⟨q, hq, h1, h2⟩
      · refine .inl ⟨h1, fun q hq => ?_⟩
        rcases List.mem_cons.1 hq with rfl | hq
        · exact h
        · exact h2 q hq
      · exact .inr ⟨q, by simp [hq], h1, h2⟩

theorem HQ {gs : List (List aH × List aA)} (hs : MA gs) {g : List aH × List aA} (hg : g ∈ gs) : look gs g.1 = g.2 := by
  induction gs with
  | nil => simp at hg
  | cons q gs ih =>
    have hs' := List.pairwise_cons.1 hs
    rw [EY]
    rcases List.mem_cons.1 hg with rfl | hg
    · rw [if_pos rfl]
    · rw [if_neg (fun e => by have := hs'.1 g hg; simp only [ltG, e] at this; exact zB this)]
      exact ih hs'.2 hg

theorem QA (g : List aH × List aA) (gs : List (List aH × List aA)) : flat (g :: gs) = fS g.1 g.2 ++ flat gs := rfl

theorem IW : ∀ {gs : List (List aH × List aA)}, MA gs → ∀ r, cK (flat gs) r = look gs r
  | [], _, r => rfl
  | g :: gs, hs, r => by
    have hs' := List.pairwise_cons.1 hs
    rw [QA, GF, RP, IW hs'.2, EY]
    by_cases h : g.1 = r
    · rw [if_pos h, if_pos h, QM, List.append_nil]
      intro q hq e
      have := hs'.1 q hq
      simp only [ltG, h, e] at this; exact zB this
    · rw [if_neg h, if_neg h]; rfl

theorem JF {p : List aA → Bool} : ∀ {gs : List (List aH × List aA)} {last : Option (List aH)}, yH p last gs = true ↔ (∀ g ∈ gs, fV g.1 = true ∧ p g.2 = true) ∧ MA gs ∧ (∀ q, last = some q → ∀ g ∈ gs, eE q g.1 < 0)
  | [], last => by simp [yH]
  | g :: gs, last => by
    unfold yH
    simp only [Bool.and_eq_true, JF (gs := gs), List.mem_cons, List.pairwise_cons]
    constructor
    · rintro ⟨⟨⟨h1, h2⟩, h3⟩, h4, h5, h6⟩
      refine ⟨?_, ⟨fun q hq => h6 _ rfl q hq, h5⟩, ?_⟩
      · rintro q (rfl | hq)
        · exact ⟨h1, h3⟩
        · exact h4 q hq
      · rintro q rfl x (rfl | hx)
        · simpa [ahd] using h2
        · simp only [ahd, decide_eq_true_eq] at h2
          exact lG.trans _ _ _ h2 (h6 _ rfl x hx)
    · rintro ⟨h1, ⟨h2, h3⟩, h4⟩
      refine ⟨⟨⟨(h1 g (.inl rfl)).1, ?_⟩, (h1 g (.inl rfl)).2⟩, fun q hq => h1 q (.inr hq), h3, ?_⟩
      · unfold ahd
        split
        · rfl
        · exact decide_eq_true (h4 _ rfl g (.inl rfl))
      · rintro q hq x hx
        cases hq
        exact h2 x hx

theorem zJ {l : List aC} (h : pG l = true) : l.length ≤ 4096 ∧ (∀ g ∈ groups l, fV g.1 = true ∧ dD g.2 = true) ∧ MA (groups l) := by
  simp only [pG, Bool.and_eq_true, decide_eq_true_eq] at h
  obtain ⟨h1, h2, _⟩ := JF.1 h.2
  exact ⟨h.1, h1, h2⟩

theorem aA6 {l : List aC} (h : pG l = true) (r : List aH) : dD (look (groups l) r) = true := by
  rcases ZX (groups l) r with ⟨h1, _⟩ | ⟨g, hg, _, h1⟩
  · rw [h1]; exact OV
  · rw [h1]; exact ((zJ h).2.1 g hg).2

theorem zY {l : List aC} (h : MA (groups l)) (r : List aH) : look (groups l) r = cK l r := by
  rw [← IW h, BP]

theorem aCo (r : List aH) (f : List aA) (e : aC) (l : List aC) : gA r f (e :: l) = if e.Row = r then gA r (f ++ [jE e]) l else (r, f) :: gA e.Row [jE e] l := rfl

def SI (by1 : List aA → List aA × Int) (gs : List (List aH × List aA)) : List (List aH × List aA) := gs.map fun g => (g.1, (by1 g.2).1)

theorem PJ {by1 : List aA → List aA × Int} : ∀ {gs : List (List aH × List aA)} {out : List aC}, out.length ≤ 4096 → (rU by1 gs out).2 = 0 → (∀ g ∈ gs, (by1 g.2).2 = 0) ∧ (rU by1 gs out).1 = out ++ flat (SI by1 gs) ∧ (rU by1 gs out).1.length ≤ 4096
  | [], out, ho, _ => by simp [rU, SI, flat, ho]
  | g :: gs, out, ho, h => by
    unfold rU at h ⊢
    by_cases e1 : (by1 g.2).2 = 0
    · rw [if_neg (by simp [e1])] at h ⊢
      by_cases e2 : 4096 < (out ++ fS g.1 (by1 g.2).1).length
      · rw [if_pos e2] at h; simp at h
      · rw [if_neg e2] at h ⊢
        obtain ⟨h1, h2, h3⟩ := PJ (by omega) h
        refine ⟨?_, ?_, h3⟩
        · intro q hq
          rcases List.mem_cons.1 hq with rfl | hq
          · exact e1
          · exact h1 q hq
        · rw [h2]; simp [SI, QA]
    · rw [if_pos e1] at h; exact absurd h e1

theorem MQ {by1 : List aA → List aA × Int} : ∀ {gs : List (List aH × List aA)} {out : List aC}, (rU by1 gs out).2 ≠ 0 → (rU by1 gs out).1 = []
  | [], out, h => by simp [rU] at h
  | g :: gs, out, h => by
    unfold rU at h ⊢
    split
    · rfl
    · rename_i e1
      rw [if_neg e1] at h
      split
      · rfl
      · rename_i e2
        rw [if_neg e2] at h
        exact MQ h

def wC (by1 : List aA → List aA × Int) (l : List aC) : List aC × Int := if pG l then rU by1 (groups l) [] else ([], 2)

theorem IS {l : List aC} (hl : okL l) {g : List aH × List aA} (hg : g ∈ groups l) : g.1.length ≤ 4398046510976 := by
  obtain ⟨_, e, he, h⟩ := IC hg
  rw [h]; exact hl.2 e he

theorem all_eq {l : List aC} (hl : okL l) {by0 : List aA → Option (List aA × Int)} {by1 : List aA → List aA × Int} (hb : ∀ f, by0 f = some (by1 f)) (h1 : ∀ f, (by1 f).1.length ≤ 1024) : tE l by0 = some (wC by1 l) := by
  unfold tE wC
  rw [KR hl]
  cases h : pG l
  · rfl
  · simp only [Option.bind_some, Bool.not_true, cond_false, if_true]
    rw [QW hl (fun g hg => ⟨hb g.2, h1 g.2, IS hl hg⟩)]
    rfl

theorem aCN {by1 : List aA → List aA × Int} {l : List aC} (h : (wC by1 l).2 = 0) : pG l = true ∧ (∀ g ∈ groups l, (by1 g.2).2 = 0) ∧ (wC by1 l).1 = flat (SI by1 (groups l)) ∧ (wC by1 l).1.length ≤ 4096 := by
  unfold wC at h ⊢
  cases hm : pG l
  · rw [hm] at h; simp at h
  · rw [hm] at h
    simp only [if_true] at h ⊢
    obtain ⟨h1, h2, h3⟩ := PJ (by simp) h
    exact ⟨trivial, h1, by simpa using h2, h3⟩

theorem BZ {f g : List aC} (hl : okL f) : oO f g = some (decide (f = g)) := by
  unfold oO
  by_cases he : f.length = g.length
  · rw [TG he, cond_false]
    unfold yL
    have := SF (f := f) (g := g) (body := fun s => qZ f g s) he ?_ ?_ f.length 0 rfl (Nat.zero_le _)
    · simp only [Int.natCast_zero, List.drop_zero] at this
      rw [this]
      by_cases h : f = g <;> simp [h, uM]
    · intro i x y hx hy
      have hll := hl.1
      obtain ⟨d1, d2, d3, d4⟩ := idx hx (by omega)
      obtain ⟨_, e2, e3, _⟩ := idx hy (by omega)
      have hr := hl.2 x (List.mem_of_getElem? hx)
      simp only [qZ, d1, cond_true, aQ d2, aQ e2, d3, e3, d4, cM]
      rw [aQ (fun _ => d2), aQ (fun _ => e2), aQ (fun _ => d2), aQ (fun _ => e2), CQ x.Row y.Row (by omega)]
      obtain ⟨x1, x2, x3⟩ := x
      obtain ⟨y1, y2, y3⟩ := y
      by_cases h1 : x2 = y2 <;> by_cases h2 : x3 = y3 <;> by_cases h3 : x1 = y1 <;> simp [h1, h2, h3]
    · simp only [qZ, cX, cond_false]
  · rw [UR he, cond_true]
    have : f ≠ g := fun h => he (by rw [h])
    simp [this]

end Go.Abs
namespace Go.Abs
theorem aBf : @dQ = @oG aC _ := rfl

theorem ZI : @dZ = @eD aC _ := rfl

theorem US (cmp) : ∀ k, @gY cmp k = @eF aC _ cmp k
  | 0 => rfl
  | k + 1 => by
    show dZ cmp _ = eD cmp _
    rw [US cmp k, ZI]

theorem aAS : @eP = @pS aC _ := by
  funext d a m b cmp
  unfold eP pS
  simp only [US]

theorem TU : @fK = @zD aC _ := by
  funext d n cmp
  unfold fK zD iF CB
  unfold iU mV fA BQ
  unfold iY BO iJ kD
  unfold iN xX iE mU
  unfold eX xW
  rw [aAS, aBf]
  rfl

end Go.Abs
namespace Go.Abs
open Go
theorem JN {l : List aC} {f : aC → Option Bool} {g : aC → Bool} (hl : l.length ≤ 1099511627776) (hf : ∀ x ∈ l, f x = some (g x)) : cW l f = some (l.any g) := by
  unfold cW fT fP
  obtain ⟨x, e, hx⟩ := HK hl hf l 0 rfl (Nat.zero_le _)
  have e' : lp (fun s => fO f l (l.length : Nat) s) 0 = some x := e
  rw [e']
  rcases hx with ⟨rfl, h⟩ | ⟨i, rfl, _, _, h, _⟩
  · simp [dW, h]
  · simp [h]

def unE (e : aC) : Bool := ((!fV e.Row) || (decide ((1048576 : Int) < e.Net))) || (decide (e.Net < (-1048576 : Int)))

def DY (e : aC) : Bool := (decide (e.At < (-1 : Int))) || (decide ((1125899906842624 : Int) < e.At))

def aAn (x y : aC) : Int := if eE x.Row y.Row ≠ 0 then eE x.Row y.Row else nU x.At y.At

abbrev okE (x : aC) : Prop := fV x.Row = true

abbrev leE (x y : aC) : Prop := eE x.Row y.Row < 0 ∨ (x.Row = y.Row ∧ x.At ≤ y.At)

theorem or_eq (a b : Int) : wF [a, b] = some (if a ≠ 0 then a else b) := by
  unfold wF yE
  have w1 : IntKind.i64.wrap (1 : Int) = 1 := by rw [dI] <;> omega
  have w2 : IntKind.i64.wrap (2 : Int) = 2 := by rw [dI] <;> omega
  have b0 : (fun s => hM 0 [a, b] (([a, b] : List Int).length : Nat) s) (0 : Int) = some (if a ≠ 0 then .inr (.inr a) else .inl 1) := by
    show hM _ _ _ _ = _
    unfold hM
    rw [aQ ⟨by omega, by simp⟩]
    by_cases h : a = 0 <;> simp [h, w1]
  have b1 : (fun s => hM 0 [a, b] (([a, b] : List Int).length : Nat) s) (1 : Int) = some (if b ≠ 0 then .inr (.inr b) else .inl 2) := by
    show hM _ _ _ _ = _
    unfold hM
    rw [aQ ⟨by omega, by simp⟩]
    by_cases h : b = 0 <;> simp [h, w2]
  have b2 : (fun s => hM 0 [a, b] (([a, b] : List Int).length : Nat) s) (2 : Int) = some (.inr (.inl ())) := by
    show hM _ _ _ _ = _
    unfold hM
    simp
  by_cases h : a = 0
  · rw [if_neg (by simp [h])] at b0
    rw [eB b0]
    by_cases h2 : b = 0
    · rw [if_neg (by simp [h2])] at b1
      rw [eB b1, cL b2]
      simp [uA, h, h2]
    · rw [if_pos h2] at b1
      rw [cL b1]
      simp [h]
  · rw [if_pos h] at b0
    rw [cL b0]
    simp [h]

theorem aCB {x y : aC} (hx : okE x) (hy : okE y) : nI x y = some (aAn x y) := by
  unfold nI aAn
  rw [QL, hx, hy]
  simp only [Bool.and_self, if_true, Option.bind_some, RE, or_eq]

theorem aCX (x y : aC) : aAn x y < 0 ↔ ¬ leE y x := by
  unfold aAn leE
  have ha := lG.anti x.Row y.Row
  have hb := lG.anti y.Row x.Row
  have he := lG.eq x.Row y.Row
  by_cases h : eE x.Row y.Row = 0
  · rw [if_neg (by simp [h])]
    have e := he.1 h
    have : ¬ eE y.Row x.Row < 0 := by rw [e]; exact zB
    unfold nU
    constructor
    · intro h1 h2
      rcases h2 with h2 | ⟨_, h2⟩
      · exact this h2
      · split at h1
        · omega
        · split at h1 <;> omega
    · intro h1
      have : ¬ y.At ≤ x.At := fun h2 => h1 (.inr ⟨e.symm, h2⟩)
      rw [if_pos (by omega)]; omega
  · rw [if_pos h]
    have hne : y.Row ≠ x.Row := fun e => h (he.2 e.symm)
    constructor
    · intro h1 h2
      rcases h2 with h2 | ⟨h2, _⟩
      · have := hb.1 h2; omega
      · exact hne h2
    · intro h1
      have : ¬ eE y.Row x.Row < 0 := fun h2 => h1 (.inl h2)
      rw [hb] at this
      omega

theorem aA4 (x y : aC) : leE x y ∨ leE y x := by
  unfold leE
  by_cases h : eE x.Row y.Row = 0
  · have e := (lG.eq _ _).1 h
    rcases Int.le_total x.At y.At with h1 | h1
    · exact .inl (.inr ⟨e, h1⟩)
    · exact .inr (.inr ⟨e.symm, h1⟩)
  · by_cases h1 : eE x.Row y.Row < 0
    · exact .inl (.inl h1)
    · exact .inr (.inl ((lG.anti _ _).2 (by omega)))

theorem aBm {x y z : aC} (h1 : leE x y) (h2 : leE y z) : leE x z := by
  rcases h1 with h1 | ⟨e1, h1⟩ <;> rcases h2 with h2 | ⟨e2, h2⟩
  · exact .inl (lG.trans _ _ _ h1 h2)
  · exact .inl (e2 ▸ h1)
  · exact .inl (e1.symm ▸ h2)
  · exact .inr ⟨e1.trans e2, by omega⟩

theorem aDF : Cmp okE leE (fun y0 y1 => nI y0 y1) where
  ans x y hx hy := ⟨_, aCB hx hy, aCX x y⟩
  trans x y z _ _ _ h1 h2 := aBm h1 h2
  total x y _ _ := aA4 x y

theorem aDH {l : List aC} (hl : l.length ≤ 1099511627776) (ho : ∀ e ∈ l, okE e) : ∃ r, r.Perm l ∧ Srt leE r ∧ dH l (fun y0 y1 => nI y0 y1) = some r := by
  obtain ⟨r, r1, r2, r3⟩ := QV aDF (d := l) ho hl
  refine ⟨r, r1, r2, ?_⟩
  unfold dH
  rw [TU, r3]; rfl

theorem SM : ∀ {l : List aC} {r : List aH} {f : List aA}, Srt leE l → (∀ e ∈ l, e.Row = r ∨ eE r e.Row < 0) → MA (gA r f l) ∧ ∀ g ∈ gA r f l, g.1 = r ∨ eE r g.1 < 0
  | [], r, f, _, _ => by simp [gA]
  | e :: l, r, f, hs, hr => by
    have hs' := List.pairwise_cons.1 hs
    rw [aCo]
    by_cases h : e.Row = r
    · rw [if_pos h]
      exact SM hs'.2 (fun x hx => hr x (by simp [hx]))
    · rw [if_neg h]
      have hlt : eE r e.Row < 0 := (hr e (by simp)).resolve_left h
      obtain ⟨h1, h2⟩ := SM (r := e.Row) (f := [jE e]) hs'.2 (fun x hx => by
        rcases hs'.1 x hx with h | ⟨h, _⟩
        · exact .inr h
        · exact .inl h.symm)
      have key : ∀ g ∈ gA e.Row [jE e] l, eE r g.1 < 0 := fun g hg => by
        rcases h2 g hg with h | h
        · rw [h]; exact hlt
        · exact lG.trans _ _ _ hlt h
      refine ⟨List.pairwise_cons.2 ⟨key, h1⟩, ?_⟩
      intro g hg
      rcases List.mem_cons.1 hg with rfl | hg
      · exact .inl rfl
      · exact .inr (key g hg)

theorem sZ {l : List aC} (hs : Srt leE l) : MA (groups l) := by
  cases l with
  | nil => exact List.Pairwise.nil
  | cons e l =>
    have hs' := List.pairwise_cons.1 hs
    exact (SM hs'.2 (fun x hx => by
      rcases hs'.1 x hx with h | ⟨h, _⟩
      · exact .inr h
      · exact .inl h.symm)).1

abbrev KL (rs : List (List aH)) : Prop := rs.Pairwise fun a b => eE a b < 0

def rV (r : List aH) : List (List aH) → List (List aH)
  | [] => [r]
  | x :: xs => if eE x r < 0 then x :: rV r xs else if x = r then x :: xs else r :: x :: xs

def rowsOf (l : List aC) : List (List aH) := l.foldl (fun rs e => rV e.Row rs) []

theorem GS {r x : List aH} : ∀ {rs : List (List aH)}, x ∈ rV r rs ↔ x = r ∨ x ∈ rs
  | [] => by simp [rV]
  | y :: ys => by
    unfold rV
    split
    · simp only [List.mem_cons, GS (rs := ys)]
      constructor
      · rintro (h | h | h)
        · exact .inr (.inl h)
        · exact .inl h
        · exact .inr (.inr h)
      · rintro (h | h | h)
        · exact .inr (.inl h)
        · exact .inl h
        · exact .inr (.inr h)
    · split
      · rename_i h; subst h; simp
      · simp

theorem WE {r : List aH} : ∀ {rs : List (List aH)}, KL rs → KL (rV r rs)
  | [], _ => by simp [rV]
  | y :: ys, hs => by
    have hs' := List.pairwise_cons.1 hs
    unfold rV
    split
    · rename_i h
      refine List.pairwise_cons.2 ⟨fun z hz => ?_, WE hs'.2⟩
      rcases GS.1 hz with rfl | hz
      · exact h
      · exact hs'.1 z hz
    · rename_i h
      split
      · exact hs
      · rename_i hne
        have hlt : eE r y < 0 := by
          have h0 : eE y r ≠ 0 := fun e => hne ((lG.eq _ _).1 e)
          exact (lG.anti _ _).2 (by omega)
        refine List.pairwise_cons.2 ⟨fun z hz => ?_, hs⟩
        rcases List.mem_cons.1 hz with rfl | hz
        · exact hlt
        · exact lG.trans _ _ _ hlt (hs'.1 z hz)

theorem KH : ∀ (l : List aC) (rs : List (List aH)), KL rs → KL (l.foldl (fun rs e => rV e.Row rs) rs) ∧ ∀ x, x ∈ l.foldl (fun rs e => rV e.Row rs) rs ↔ x ∈ rs ∨ ∃ e ∈ l, e.Row = x
  | [], rs, hs => ⟨hs, by simp⟩
  | e :: l, rs, hs => by
    obtain ⟨h1, h2⟩ := KH l (rV e.Row rs) (WE hs)
    refine ⟨h1, fun x => ?_⟩
    simp only [List.foldl_cons]
    rw [h2 x, GS]
    simp only [List.mem_cons, exists_eq_or_imp]
    constructor
    · rintro ((h | h) | h)
      · exact .inr (.inl h.symm)
      · exact .inl h
      · exact .inr (.inr h)
    · rintro (h | h | h)
      · exact .inl (.inr h)
      · exact .inl (.inl h.symm)
      · exact .inr h

theorem aAj (l : List aC) : KL (rowsOf l) := (KH l [] List.Pairwise.nil).1

theorem AL {l : List aC} {x : List aH} : x ∈ rowsOf l ↔ ∃ e ∈ l, e.Row = x := by
  have := (KH l [] List.Pairwise.nil).2 x
  simpa [rowsOf] using this

theorem WC : ∀ {a b : List (List aH)}, KL a → KL b → (∀ x, x ∈ a ↔ x ∈ b) → a = b
  | [], [], _, _, _ => rfl
  | [], y :: ys, _, _, h => absurd ((h y).2 (by simp)) (by simp)
  | x :: xs, [], _, _, h => absurd ((h x).1 (by simp)) (by simp)
  | x :: xs, y :: ys, ha, hb, h => by
    have ha' := List.pairwise_cons.1 ha
    have hb' := List.pairwise_cons.1 hb
    have e : x = y := by
      rcases List.mem_cons.1 ((h x).1 (by simp)) with h1 | h1
      · exact h1
      · rcases List.mem_cons.1 ((h y).2 (by simp)) with h2 | h2
        · exact h2.symm
        · exact absurd (lG.trans _ _ _ (hb'.1 x h1) (ha'.1 y h2)) zB
    subst e
    rw [WC ha'.2 hb'.2 fun z => ?_]
    constructor
    · intro hz
      rcases List.mem_cons.1 ((h z).1 (by simp [hz])) with h1 | h1
      · subst h1; exact absurd (ha'.1 z hz) zB
      · exact h1
    · intro hz
      rcases List.mem_cons.1 ((h z).2 (by simp [hz])) with h1 | h1
      · subst h1; exact absurd (hb'.1 z hz) zB
      · exact h1

def JS (l : List aC) : List (List aH × List aA) := (rowsOf l).map fun r => (r, cK l r)

theorem UU {a b : List aC} (h : a.Perm b) (r : List aH) : (cK a r).Perm (cK b r) := (h.filter _).map _

theorem LF {l l' : List aC} (hp : l'.Perm l) (hs : Srt leE l') : (groups l').map (·.1) = rowsOf l := by
  refine WC ?_ (aAj l) fun x => ?_
  · rw [KL, List.pairwise_map]; exact sZ hs
  · rw [AL]
    constructor
    · intro h
      obtain ⟨g, hg, rfl⟩ := List.mem_map.1 h
      obtain ⟨_, e, he, h1⟩ := IC hg
      exact ⟨e, hp.mem_iff.1 he, h1.symm⟩
    · rintro ⟨e, he, rfl⟩
      have he' : e ∈ flat (groups l') := by rw [BP]; exact hp.mem_iff.2 he
      obtain ⟨g, hg, h1⟩ := List.mem_flatMap.1 he'
      obtain ⟨j, _, rfl⟩ := List.mem_map.1 h1
      exact List.mem_map.2 ⟨g, hg, rfl⟩

theorem aBz {l : List aA} (ht : ∀ j ∈ l, -2 < j.At) : Up (-2) (HS l) :=
  DX (by rw [List.map_map]; simpa [Function.comp_def] using KM ht)

theorem aAH {l : List aA} (ht : ∀ j ∈ l, -2 < j.At) {t : Int} (h1 : -2 < t) (h2 : t < 1125899906842624) : val (HS l) t = val l t := by
  have h0 : val l (-2) = 0 := wM fun j hj => ht j hj
  have := JQ (F := val l) (KM ht) (fun s t' _ hst hlt hn => vN hst fun j hj hc => hn j.At (BG.2 (Or.inr ⟨j, List.mem_filter.2 ⟨hj, by simp; omega⟩, rfl⟩)) hc) t (by omega) h2
  rw [h0] at this
  unfold HS
  rw [this]; omega

theorem ZD {f g : List aA} (h : f.Perm g) (hf : f.any vI = false) : HS f = HS g := by
  have hg : ∀ j ∈ g, -2 < j.At := fun j hj => (HM hf j (h.mem_iff.2 hj)).1
  exact VR (fun j hj => (HM hf j hj).1) (aBz hg) fun t h1 h2 => by rw [aAH hg h1 h2, SU h]

theorem LW {f g : List aA} (h : f.Perm g) (p : aA → Bool) : f.any p = g.any p := by
  cases h1 : g.any p
  · rw [List.any_eq_false] at h1 ⊢
    exact fun x hx => h1 x (h.mem_iff.1 hx)
  · obtain ⟨x, hx, hp⟩ := List.any_eq_true.1 h1
    exact List.any_eq_true.2 ⟨x, h.mem_iff.2 hx, hp⟩

theorem ZO {f g : List aA} (h : f.Perm g) : mO f = mO g := by
  unfold mO
  rw [LW h sG, LW h vI]
  split
  · rfl
  · split
    · rfl
    · rename_i h2
      rw [ZD h (by rw [LW h vI]; simpa using h2)]

theorem JL (l : List aA) : (mO l).1.length ≤ 1024 := by
  unfold mO
  split
  · simp
  · split
    · simp
    · exact LZ _

theorem NU {by1 : List aA → List aA × Int} : ∀ {gs hs : List (List aH × List aA)} {out : List aC}, gs.map (fun g => (g.1, by1 g.2)) = hs.map (fun g => (g.1, by1 g.2)) → rU by1 gs out = rU by1 hs out
  | [], [], _, _ => rfl
  | [], _ :: _, _, h => by simp at h
  | _ :: _, [], _, h => by simp at h
  | g :: gs, k :: hs, out, h => by
    simp only [List.map_cons, List.cons.injEq, Prod.mk.injEq] at h
    obtain ⟨⟨h1, h2⟩, h3⟩ := h
    unfold rU
    rw [h1, h2]
    split
    · rfl
    · split
      · rfl
      · exact NU h3

theorem WQ {l l' : List aC} (hp : l'.Perm l) (hs : Srt leE l') : (groups l').map (fun g => (g.1, mO g.2)) = (JS l).map (fun g => (g.1, mO g.2)) := by
  have h1 : (groups l').map (fun g => (g.1, mO g.2)) = ((groups l').map (·.1)).map (fun r => (r, mO (cK l r))) := by
    rw [List.map_map]
    apply List.map_congr_left
    intro g hg
    have hj : g.2 = cK l' g.1 := by rw [← zY (sZ hs), HQ (sZ hs) hg]
    simp only [Function.comp]
    rw [hj, ZO (UU hp g.1)]
  rw [h1, LF hp hs, JS, List.map_map]
  rfl

def tA (l : List aC) : List aC × Int := if l.any unE then ([], 2) else if l.any DY then ([], 13) else rU mO (JS l) []

theorem KU {l : List aC} (h : l.any unE = false) : ∀ e ∈ l, fV e.Row = true ∧ e.Net ≤ 1048576 ∧ -1048576 ≤ e.Net := by
  intro e he
  have := List.any_eq_false.1 h e he
  simp only [unE, Bool.or_eq_true, not_or, Bool.not_eq_true', decide_eq_true_eq, Bool.not_eq_false, Bool.not_eq_true] at this
  exact ⟨by simpa using this.1.1, by omega, by omega⟩

theorem TF {l : List aC} (hl : okL l) (hn : l.length ≤ 1099511627776) : uU l = some (tA l) := by
  unfold uU tA
  rw [JN (g := unE) hn (fun x _ => by simp [tN, GR, unE])]
  simp only [Option.bind_some]
  cases h1 : l.any unE
  · rw [JN (f := fun y0 => tR y0) (g := DY) hn (fun x _ => rfl)]
    simp only [cond_false, Option.bind_some, Bool.false_eq_true, if_false]
    cases h2 : l.any DY
    · simp only [cond_false, Bool.false_eq_true, if_false]
      have hc : fC l = some l := by unfold fC; exact aQ ⟨by omega, by omega⟩
      obtain ⟨r, r1, r2, r3⟩ := aDH hn (fun e he => (KU h1 e he).1)
      rw [hc]
      simp only [Option.bind_some]
      rw [r3]
      simp only [Option.bind_some]
      have hr : okL r := ⟨by rw [r1.length_eq]; exact hl.1, fun e he => hl.2 e (r1.mem_iff.1 he)⟩
      rw [QW hr (by1 := mO) (fun g hg => ⟨by
        unfold tM
        have hgl : g.2.length ≤ 1099511627776 := by
          have h3 : g.2 = cK r g.1 := by rw [← zY (sZ r2), HQ (sZ r2) hg]
          rw [h3, cK, List.length_map]
          exact Nat.le_trans (List.length_filter_le _ _) (by rw [r1.length_eq]; exact hn)
        rw [norm_eq hgl]; rfl, JL _, IS hr hg⟩)]
      simp only [Option.bind_some]
      rw [NU (WQ r1 r2)]
    · simp
  · simp

theorem aBY {l : List aC} (h : (tA l).2 = 0) : l.any unE = false ∧ l.any DY = false ∧ (∀ g ∈ JS l, (mO g.2).2 = 0) ∧ (tA l).1 = flat (SI mO (JS l)) ∧ (tA l).1.length ≤ 4096 := by
  unfold tA at h ⊢
  cases h1 : l.any unE
  · rw [h1] at h
    simp only [Bool.false_eq_true, if_false] at h ⊢
    cases h2 : l.any DY
    · rw [h2] at h
      simp only [Bool.false_eq_true, if_false] at h ⊢
      obtain ⟨a, b, c⟩ := PJ (by simp) h
      exact ⟨trivial, trivial, a, by simpa using b, c⟩
    · rw [h2] at h; simp at h
  · rw [h1] at h; simp at h

theorem aAh {l : List aC} (h : (tA l).2 ≠ 0) : (tA l).1 = [] := by
  unfold tA at h ⊢
  split
  · rfl
  · rename_i h1
    rw [if_neg h1] at h
    split
    · rfl
    · rename_i h2
      rw [if_neg h2] at h
      exact MQ h

end Go.Abs
namespace Go.Abs
open Go
theorem aAC {ls : List (List aC)} (hl : ls.length ≤ 1000) (hb : ∀ l ∈ ls, l.length ≤ 1000000) : lp (fun s : Int × Int => cJ ls ls (ls.length : Nat) s.1 s.2) (0, 0) = some (((ls.map List.length).sum : Nat) : Int) := by
  have := nC (l := ls) (body := fun s : Int × Int => cJ ls ls (ls.length : Nat) s.1 s.2) (fun (n : Nat) i => ((n : Int), i)) (fun n r => ((n + (r.map List.length).sum : Nat) : Int)) (fun n r => n + 1000000 * r.length ≤ 1000000000 ∧ ∀ x ∈ r, x.length ≤ 1000000) 0 ?_ ?_ ⟨by omega, hb⟩
  · simpa using this
  · rintro i a r n ha ⟨h1, h2⟩
    left
    obtain ⟨d1, d2, d3, d4⟩ := idx ha (by omega)
    simp only [List.length_cons] at h1
    have h3 := h2 a (by simp)
    have hw : IntKind.i64.wrap ((n : Int) + ((a.length : Nat) : Int)) = ((n + a.length : Nat) : Int) := by rw [dI (by omega) (by omega)]; omega
    refine ⟨n + a.length, ?_, ⟨by omega, fun x hx => h2 x (by simp [hx])⟩, by simp; omega⟩
    show cJ _ _ _ _ _ = _
    have hz : decide (((n + a.length : Nat) : Int) < 0) = false := by simp; omega
    simp only [cJ, d1, cond_true, aQ d2, d3, d4, hw, hz, cond_false]
  · rintro n _
    show cJ _ _ _ _ _ = _
    simp only [cJ, cX, cond_false]
    simp

theorem aCC {n : Nat} (h : n ≤ 1000000000) : fH (n : Int) = some [] := by
  unfold fH
  have h1 : decide ((n : Int) < 0) = false := by simp
  have w0 : IntKind.i64.wrap ((0 : Int) - ((0 : Nat) : Int)) = 0 := by rw [dI] <;> omega
  have w1 : IntKind.i64.wrap ((n : Int) - 0) = (n : Int) := by rw [dI (by omega) (by omega)]; omega
  simp only [h1, cond_false, w0, w1]
  by_cases h2 : (0 : Int) < (n : Int)
  · rw [decide_eq_true h2, cond_true, aQ ⟨by omega, by omega⟩, aQ ⟨by omega, by simp only [Int.toNat_natCast]; omega, by omega⟩, aQ ⟨by omega, by omega⟩]
    rfl
  · rw [decide_eq_false h2, cond_false]; rfl

theorem aBu {ls : List (List aC)} (hl : ls.length ≤ 1000) (hb : ∀ l ∈ ls, l.length ≤ 1000000) : lp (fun s : List aC × Int => cI ls (ls.length : Nat) s.1 s.2) ([], 0) = some ls.flatten := by
  have := nC (l := ls) (body := fun s : List aC × Int => cI ls (ls.length : Nat) s.1 s.2) (fun o i => (o, i)) (fun o r => o ++ r.flatten) (fun o r => o.length + 1000000 * r.length ≤ 1000000000 ∧ ∀ x ∈ r, x.length ≤ 1000000) [] ?_ ?_ ⟨by simp; omega, hb⟩
  · simpa using this
  · rintro i a r o ha ⟨h1, h2⟩
    left
    obtain ⟨d1, d2, d3, d4⟩ := idx ha (by omega)
    simp only [List.length_cons] at h1
    have h3 := h2 a (by simp)
    refine ⟨o ++ a, ?_, ⟨by simp; omega, fun x hx => h2 x (by simp [hx])⟩, by simp⟩
    show cI _ _ _ _ = _
    simp only [cI, d1, cond_true, aQ d2, d3, d4]
    exact aQ ⟨by omega, by omega⟩
  · rintro o _
    show cI _ _ _ _ = _
    simp only [cI, cX, cond_false]
    simp

theorem aBy {a b : List aC} (ha : a.length ≤ 1000000) (hb : b.length ≤ 1000000) : eR [a, b] = some (a ++ b) := by
  have hx : ∀ l ∈ [a, b], l.length ≤ 1000000 := by simp [ha, hb]
  unfold eR gM
  rw [aAC (by simp) hx]
  simp only [Option.bind_some, eM]
  rw [aCC (by simp; omega)]
  simp only [Option.bind_some, gK]
  rw [aBu (by simp) hx]
  simp [eJ]

def IV (a b : List aC) : List aC × Int := if pG a && pG b then tA (a ++ b) else ([], 2)

theorem HF {a b : List aC} (ha : okL a) (hb : okL b) (h : a.length + b.length ≤ 3518437208783) : okL (a ++ b) :=
  ⟨by simpa using h, fun e he => by
    rcases List.mem_append.1 he with h | h
    · exact ha.2 e h
    · exact hb.2 e h⟩

theorem YH {a b : List aC} (ha : okL a) (hb : okL b) : wS a b = some (IV a b) := by
  unfold wS IV
  rw [KR ha]
  cases h1 : pG a
  · simp [cM]
  · simp only [Option.bind_some, Bool.not_true, Bool.not_false, cM, cond_true, KR hb, Bool.false_or]
    cases h2 : pG b
    · simp
    · have la := (zJ h1).1
      have lb := (zJ h2).1
      simp only [Bool.not_true, cond_false, Bool.and_self, if_true]
      rw [aBy (by omega) (by omega)]
      simp only [Option.bind_some]
      rw [TF (HF ha hb (by omega)) (by simp; omega)]
      rfl

def SC (s : nA) : Bool := (decide (0 ≤ s.From) && decide (s.From ≤ 1125899906842624)) && (decide (0 ≤ s.To) && decide (s.To ≤ 1125899906842624)) && decide (s.From < s.To)

def ofE (r : List aH) (s : nA) : List aC × Int := if !fV r then ([], 2) else if !SC s then ([], 14) else tA [⟨r, s.From, 1⟩, ⟨r, s.To, -1⟩]

theorem YX (s : nA) : AT s = some (SC s) := by
  unfold AT xE SC
  simp only [Option.bind_some]
  cases h : (decide (0 ≤ s.From) && decide (s.From ≤ 1125899906842624)) <;> simp [cM]

theorem aAZ {r : List aH} (hr : r.length ≤ 4398046510976) (s : nA) : zC r s = some (ofE r s) := by
  unfold zC ofE
  rw [GR]
  cases h1 : fV r
  · simp
  · simp only [Option.bind_some, Bool.not_true, cond_false, YX, Bool.false_eq_true, if_false]
    cases h2 : SC s
    · simp
    · simp only [Bool.not_true, cond_false, Bool.false_eq_true, if_false]
      rw [TF ⟨by simp, by simp [hr]⟩ (by simp)]
      rfl

def vL : aH := ⟨1, 1, ByteArray.empty⟩

theorem NK {l : List aC} (h : l.length ≤ 4096) (hr : ∀ e ∈ l, e.Row.length ≤ 8) : okL l := ⟨by omega, fun e he => by have := hr e he; omega⟩

theorem aDE : ofE [vL] ⟨2, 5⟩ = ([⟨[vL], 2, 1⟩, ⟨[vL], 5, -1⟩], 0) := by decide +kernel

theorem aDL : ofE [vL] ⟨5, 9⟩ = ([⟨[vL], 5, 1⟩, ⟨[vL], 9, -1⟩], 0) := by decide +kernel

theorem aDB : IV [⟨[vL], 2, 1⟩, ⟨[vL], 5, -1⟩] [⟨[vL], 5, 1⟩, ⟨[vL], 9, -1⟩] = ([⟨[vL], 2, 1⟩, ⟨[vL], 9, -1⟩], 0) := by decide +kernel

theorem aDD : aAR [⟨[vL], 2, 1⟩, ⟨[vL], 9, -1⟩] = true := by decide +kernel

theorem LS : sE = some true := by
  unfold sE
  have h1 := (aAZ (r := [vL]) (by simp) ⟨2, 5⟩).trans (congrArg some aDE)
  have h2 := (aAZ (r := [vL]) (by simp) ⟨5, 9⟩).trans (congrArg some aDL)
  unfold vL at h1 h2
  rw [h1, h2]
  simp only [Option.bind_some]
  have k1 : okL [⟨[vL], 2, 1⟩, ⟨[vL], 5, -1⟩] := NK (by simp) (by simp)
  have k2 : okL [⟨[vL], 5, 1⟩, ⟨[vL], 9, -1⟩] := NK (by simp) (by simp)
  have h3 := (YH k1 k2).trans (congrArg some aDB)
  have h4 := (aBd (l := [⟨[vL], 2, 1⟩, ⟨[vL], 9, -1⟩]) (NK (by simp) (by simp))).trans (congrArg some aDD)
  have h5 : pK [] = some true := (KR (l := []) (NK (by simp) (by simp))).trans (by decide +kernel)
  unfold vL at h3 h4
  rw [h3]
  simp only [Option.bind_some]
  rw [h4, h5]
  simp [cM, aQ]

end Go.Abs
namespace Go.Abs
open Go
theorem KT : okL [] := ⟨by simp, by simp⟩

theorem TQ {gs : List (List aH × List aA)} (h : ∀ g ∈ gs, g.1.length ≤ 4398046510976) (hl : (flat gs).length ≤ 4096) : okL (flat gs) := by
  refine ⟨by omega, fun e he => ?_⟩
  obtain ⟨g, hg, h1⟩ := List.mem_flatMap.1 he
  obtain ⟨j, _, rfl⟩ := List.mem_map.1 h1
  exact h g hg

theorem MI {by1 : List aA → List aA × Int} {l : List aC} (hl : okL l) : okL (wC by1 l).1 := by
  by_cases h : (wC by1 l).2 = 0
  · obtain ⟨_, _, h3, h4⟩ := aCN h
    rw [h3] at h4 ⊢
    refine TQ (fun g hg => ?_) h4
    obtain ⟨q, hq, rfl⟩ := List.mem_map.1 hg
    have := IS hl hq
    exact this
  · unfold wC at h ⊢
    split
    · rename_i hm
      rw [if_pos hm] at h
      rw [MQ h]; exact KT
    · exact KT

theorem aAG {l : List aC} (hl : okL l) : okL (tA l).1 := by
  by_cases h : (tA l).2 = 0
  · obtain ⟨_, _, _, h4, h5⟩ := aBY h
    rw [h4] at h5 ⊢
    refine TQ (fun g hg => ?_) h5
    obtain ⟨q, hq, rfl⟩ := List.mem_map.1 hg
    obtain ⟨r, hr, rfl⟩ := List.mem_map.1 hq
    obtain ⟨e, he, rfl⟩ := AL.1 hr
    exact hl.2 e he
  · rw [aAh h]; exact KT

def MY (l : List aC) (t : Int) : List aC × Int := wC (fun f => ahead f t) l

def RW (l : List aC) (t : Int) : List aC × Int := wC (fun f => rest f t) l

theorem ZZ {l : List aC} (hl : okL l) (t : Int) : okL (MY l t).1 := MI hl

theorem aAM {l : List aC} (hl : okL l) (t : Int) : okL (RW l t).1 := MI hl

theorem aAu {l : List aC} (hl : okL l) (t : Int) : vF l t = some (MY l t) := by
  unfold vF MY
  rw [all_eq hl (by0 := fun y0 => pW y0 t) (by1 := fun f => ahead f t) (fun f => by unfold pW; rw [aB8]; rfl) (fun f => PZ f t)]
  rfl

theorem aBG {l : List aC} (hl : okL l) (t : Int) : xI l t = some (RW l t) := by
  unfold xI RW
  rw [all_eq hl (by0 := fun y0 => qW y0 t) (by1 := fun f => rest f t) (fun f => by unfold qW; rw [aCy]; rfl) (fun f => SH f t)]
  rfl

end Go.Abs
namespace Go.Abs
open Go
theorem aAP {l : List aC} (m : ∀ a ∈ l, rS a) (y : List.length l * 40 ≤ 140737488351232) : okL l :=
  ⟨by omega, fun e he => by have := (m e he).1.2; omega⟩

end Go.Abs
namespace Go.Abs
open Go
theorem QH {out : List aC} {r : List aH} {f : List aA} (hr : r.length ≤ 4398046510976) (hl : out.length + f.length ≤ 1099511627776) : uO out r f = some (out ++ fS r f) := by
  unfold uO AV
  rw [nC (l := f) (body := fun s : List aC × Int => oP r f s.1 s.2) (fun o i => (o, i)) (fun o t => o ++ fS r t) (fun o t => o.length + t.length ≤ 1099511627776) out ?_ ?_ hl]
  · rfl
  · intro i a t o ha hi
    left
    obtain ⟨d1, d2, d3, d4⟩ := idx ha (by have := (List.getElem?_eq_some_iff.1 ha).1; omega)
    simp only [List.length_cons] at hi
    refine ⟨o ++ [⟨r, a.At, a.Net⟩], ?_, by simp; omega, by simp [fS]⟩
    show oP _ _ _ _ = _
    simp only [oP, d1, cond_true, aQ d2, d3, d4]
    rw [aQ ⟨by omega, by omega⟩]
    exact aQ (by simp only [List.length_cons, List.length_nil]; omega)
  · intro o _
    show oP _ _ _ _ = _
    simp only [oP, cX, cond_false]
    simp [fS]

theorem QC (r : List aH) (f : List aA) : (fS r f).length = f.length := by simp [fS]

def JM (f : List aA) : List aA × Int := if dD f then (zR f, 0) else ([], 2)

theorem YZ (f : List aA) : rJ f = some (JM f) := by
  rw [neg_eq, aDq]; rfl

theorem TI (f : List aA) : (zR f).length = f.length := by simp [zR]

def ZQ (l : List aC) : List aC × Int := wC JM l

theorem aCU {l : List aC} (hl : okL l) : AK l = some (ZQ l) := by
  unfold AK ZQ
  rw [all_eq hl (by0 := fun y0 => rJ y0) (by1 := JM) (fun f => YZ f) (fun f => by
    unfold JM
    split
    · rename_i h; rw [TI]; exact (dA.1 h).1
    · simp)]
  rfl

theorem aAp {l : List aC} (hm : pG l = true) {e : aC} (he : e ∈ l) : fV e.Row = true ∧ -2 < e.At ∧ e.At < 1125899906842624 ∧ e.Net ≠ 0 ∧ e.Net ≤ 1048576 ∧ -1048576 ≤ e.Net := by
  obtain ⟨_, h2, _⟩ := zJ hm
  have he' : e ∈ flat (groups l) := by rw [BP]; exact he
  obtain ⟨g, hg, h1⟩ := List.mem_flatMap.1 he'
  obtain ⟨j, hj, rfl⟩ := List.mem_map.1 h1
  obtain ⟨a, b⟩ := h2 g hg
  exact ⟨a, (dA.1 b).2.above j hj⟩

theorem NA {l : List aC} (hm : pG l = true) (r : List aH) : dD (cK l r) = true := by
  rw [← zY (zJ hm).2.2]; exact aA6 hm r

end Go.Abs
namespace Go.Abs
open Go
theorem FQ {l : List aC} (hl : okL l) (hn : l.length ≤ 1099511627776) {r : List aH} : pE l r = some (cK l r) := by
  unfold pE wT
  rw [nC (l := l) (body := fun s : List aA × Int => mM l r s.1 s.2) (fun o i => (o, i)) (fun o t => o ++ cK t r) (fun o t => o.length + t.length ≤ 1099511627776) [] ?_ ?_ (by simpa using hn)]
  · rfl
  · intro i a t o ha hi
    left
    obtain ⟨d1, d2, d3, d4⟩ := idx ha (by omega)
    simp only [List.length_cons] at hi
    have hr := hl.2 a (List.mem_of_getElem? ha)
    have hb : mM l r o (i : Int) = some (.inl (if a.Row = r then o ++ [jE a] else o, ((i + 1 : Nat) : Int))) := by
      simp only [mM, sK, d1, cond_true, aQ d2, d3, d4, CQ a.Row r (by omega), Option.bind_some]
      by_cases e : a.Row = r
      · simp only [e, decide_true, cond_true, if_true]
        rw [aQ (by simp only [List.length_cons, List.length_nil]; omega)]; rfl
      · simp [e]
    refine ⟨_, hb, ?_, ?_⟩
    · split
      · simp; omega
      · omega
    · by_cases e : a.Row = r <;> simp [cK, e]
  · intro o _
    show mM _ _ _ _ = _
    simp only [mM, cX, cond_false]
    simp [cK]

theorem MU (r : List aH) : ∀ rs : List (List aH), (rV r rs).length ≤ rs.length + 1
  | [] => by simp [rV]
  | x :: xs => by
    unfold rV
    split
    · simp only [List.length_cons]; have := MU r xs; omega
    · split <;> simp

def xC (r : List aH) : List (List aH) → Nat
  | [] => 0
  | x :: xs => if eE x r < 0 then xC r xs + 1 else 0

theorem YF (r : List aH) : ∀ rs, xC r rs ≤ rs.length
  | [] => by simp [xC]
  | x :: xs => by unfold xC; split <;> simp [YF r xs]

theorem VD (r : List aH) : ∀ rs, rV r rs = if rs[xC r rs]? = some r then rs else rs.take (xC r rs) ++ [r] ++ rs.drop (xC r rs)
  | [] => by simp [rV]
  | x :: xs => by
    unfold rV xC
    by_cases h : eE x r < 0
    · rw [if_pos h, if_pos h, VD r xs]
      simp only [List.getElem?_cons_succ, List.take_succ_cons, List.drop_succ_cons]
      split <;> simp
    · rw [if_neg h, if_neg h]
      by_cases e : x = r <;> simp [e]

theorem NM {l : List aC} {rs : List (List aH)} {e : aC} {i : Nat} (hi : l[i]? = some e) (hl : okL l) (he : fV e.Row = true) (hr : ∀ x ∈ rs, fV x = true) (hn : rs.length ≤ 1099511627776) : ∀ (t : List (List aH)) (k : Nat), rs.drop k = t → k ≤ rs.length →
    lp (fun s : List (List aH) × Int => lZ l (i : Int) s.1 s.2) (rs, (k : Int)) = some (rs, ((k + xC e.Row t : Nat) : Int))
  | [], k, hd, hk => by
    have : k = rs.length := by
      have := congrArg List.length hd
      simp only [List.length_drop, List.length_nil] at this; omega
    subst this
    refine cL ?_
    show lZ _ _ _ _ = _
    simp only [lZ, cX, cM, cond_false, Option.bind_some, Bool.false_and]
    rw [aQ (fun h => by cases h), aQ (fun h => by cases h)]
    simp [xC]
  | x :: t, k, hd, hk => by
    obtain ⟨h1, h2⟩ := drop_cons hd
    have hlt := (List.getElem?_eq_some_iff.1 h1).1
    obtain ⟨d1, d2, d3, d4⟩ := idx h1 (by omega)
    obtain ⟨_, c2, c3, _⟩ := idx hi (by have := hl.1; omega)
    have hx := hr x (List.mem_of_getElem? h1)
    have hb : (fun s : List (List aH) × Int => lZ l (i : Int) s.1 s.2) (rs, (k : Int)) = some (if eE x e.Row < 0 then .inl (rs, ((k + 1 : Nat) : Int)) else .inr (rs, (k : Int))) := by
      show lZ _ _ _ _ = _
      simp only [lZ, d1, cM, cond_true, d3, c3, d4, Bool.true_and]
      rw [aQ (fun _ => d2), aQ (fun _ => c2), JG x e.Row (by have := (wO hx).1; omega) (by have := (wO he).1; omega), hx, he]
      simp only [Bool.and_self, if_true, Option.bind_some]
      by_cases h : eE x e.Row < 0 <;> simp [h]
    unfold xC
    by_cases h : eE x e.Row < 0
    · rw [if_pos h] at hb
      rw [eB hb, NM hi hl he hr hn t (k + 1) h2 (by omega), if_pos h]
      congr 3; omega
    · rw [if_neg h] at hb
      rw [cL hb, if_neg h]; rfl

theorem GU {l : List aC} (hl : okL l) (hm : ∀ e ∈ l, fV e.Row = true) (hn : l.length ≤ 1099511627776) : qJ l = some (rowsOf l) := by
  unfold qJ yA
  rw [nC (l := l) (body := fun s : List (List aH) × Int => nK l s.1 s.2) (fun o i => (o, i)) (fun o t => t.foldl (fun rs e => rV e.Row rs) o) (fun o t => o.length + t.length ≤ 1099511627776 ∧ ∀ x ∈ o, fV x = true) [] ?_ ?_ ⟨by simpa using hn, by simp⟩]
  · rfl
  · rintro i e t rs hi ⟨h1, h2⟩
    left
    obtain ⟨d1, d2, d3, d4⟩ := idx hi (by omega)
    have he := hm e (List.mem_of_getElem? hi)
    simp only [List.length_cons] at h1
    refine ⟨rV e.Row rs, ?_, ⟨by have := MU e.Row rs; omega, fun x hx => by
      rcases GS.1 hx with rfl | h
      · exact he
      · exact h2 x h⟩, rfl⟩
    show nK _ _ _ = _
    have hin := NM hi hl he h2 (by omega) rs 0 rfl (Nat.zero_le _)
    simp only [Int.natCast_zero, Nat.zero_add] at hin
    have hple := YF e.Row rs
    simp only [nK, d1, cond_true, yD, hin, Option.bind_some, uN, uC, d3, d4]
    rw [VD]
    by_cases hp : xC e.Row rs < rs.length
    · have hx : rs[xC e.Row rs]? = some rs[xC e.Row rs] := List.getElem?_eq_getElem hp
      obtain ⟨f1, f2, f3, _⟩ := idx hx (by omega)
      have hrow := h2 _ (List.mem_of_getElem? hx)
      simp only [f1, f3, cM, cond_true, Bool.true_and]
      rw [aQ (fun _ => f2), aQ (fun _ => d2), CQ _ _ (by have := (wO hrow).1; omega)]
      by_cases hq : rs[xC e.Row rs] = e.Row
      · simp [hq, hx]
      · simp only [hq, decide_false, cond_false, Option.bind_some, hx, Option.some.injEq, if_false, Int.toNat_natCast]
        rw [aQ ⟨by omega, by omega⟩, aQ ⟨by simp; omega, by simp; omega⟩, aQ d2, aQ ⟨by simp; omega, by simp; omega⟩, aQ ⟨by omega, by omega⟩, aQ ⟨by simp; omega, by simp; omega⟩]
    · have hpe : xC e.Row rs = rs.length := by omega
      rw [hpe]
      simp only [cX, cM, cond_false, Option.bind_some, Bool.false_and]
      rw [aQ (fun h => by cases h), aQ (fun h => by cases h)]
      have hnone : rs[rs.length]? = none := by simp
      simp only [hnone, reduceCtorEq, if_false, Int.toNat_natCast]
      rw [aQ ⟨by omega, by omega⟩, aQ ⟨by simp; omega, by simp; omega⟩, aQ d2, aQ ⟨by simp; omega, by simp; omega⟩, aQ ⟨by omega, by omega⟩, aQ ⟨by simp; omega, by simp; omega⟩]
  · rintro rs ⟨_, _⟩
    show nK _ _ _ = _
    simp only [nK, cX, cond_false]
    rfl

theorem IK : ∀ (l : List aC) (rs : List (List aH)), (l.foldl (fun rs e => rV e.Row rs) rs).length ≤ rs.length + l.length
  | [], rs => by simp
  | e :: l, rs => by
    have := IK l (rV e.Row rs)
    have := MU e.Row rs
    simp only [List.foldl_cons, List.length_cons]; omega

theorem DK (l : List aC) : (rowsOf l).length ≤ l.length := by
  have := IK l []
  simpa [rowsOf] using this

theorem WX (l : List aC) (r : List aH) : (cK l r).length ≤ l.length := by
  unfold cK; rw [List.length_map]; exact List.length_filter_le _ _

end Go.Abs
namespace Go.Abs
open Go
def uY (by1 : List aA → List aA × Int) : List (List aH × List aA) → List aC → List aC × Int
  | [], out => (out, 0)
  | g :: gs, out => if (by1 g.2).2 ≠ 0 then ([], (by1 g.2).2) else uY by1 gs (out ++ fS g.1 (by1 g.2).1)

def HJ (x : List aC × Int) : List aC × Int := if x.2 = 0 ∧ 4096 < x.1.length then ([], 7) else x

theorem TK {by1 : List aA → List aA × Int} : ∀ {gs : List (List aH × List aA)} {out : List aC}, (∀ g ∈ gs, (by1 g.2).2 = 0 ∨ (by1 g.2).2 = 7) → 4096 < out.length → HJ (uY by1 gs out) = ([], 7)
  | [], out, _, h => by simp [uY, HJ, h]
  | g :: gs, out, he, h => by
    unfold uY
    rcases he g (by simp) with e | e
    · rw [if_neg (by simp [e])]
      exact TK (fun q hq => he q (by simp [hq])) (by rw [List.length_append]; omega)
    · rw [if_pos (by simp [e]), e]; simp [HJ]

theorem PB {by1 : List aA → List aA × Int} : ∀ {gs : List (List aH × List aA)} {out : List aC}, (∀ g ∈ gs, (by1 g.2).2 = 0 ∨ (by1 g.2).2 = 7) → out.length ≤ 4096 → HJ (uY by1 gs out) = rU by1 gs out
  | [], out, _, h => by
    have : ¬ 4096 < out.length := by omega
    simp [uY, HJ, rU, this]
  | g :: gs, out, he, h => by
    unfold uY rU
    rcases he g (by simp) with e | e
    · rw [if_neg (by simp [e]), if_neg (by simp [e])]
      by_cases hl : 4096 < (out ++ fS g.1 (by1 g.2).1).length
      · rw [if_pos hl]; exact TK (fun q hq => he q (by simp [hq])) hl
      · rw [if_neg hl]; exact PB (fun q hq => he q (by simp [hq])) (by omega)
    · rw [if_pos (by simp [e]), if_pos (by simp [e]), e]; simp [HJ]

theorem YR {by1 : List aA → List aA × Int} {J : List aH → List aA} {rs : List (List aH)} {body : List aC × Int → Option ((List aC × Int) ⊕ (List aC ⊕ (List aC × Int)))} (h1 : ∀ f, (by1 f).1.length ≤ 1024) (hn : rs.length ≤ 1000000)
    (hb : ∀ (i : Nat) r out, rs[i]? = some r → out.length ≤ 1024000000 → body (out, (i : Int)) = some (if (by1 (J r)).2 ≠ 0 then .inr (.inr ([], (by1 (J r)).2)) else .inl (out ++ fS r (by1 (J r)).1, ((i + 1 : Nat) : Int))))
    (he : ∀ out, body (out, (rs.length : Nat)) = some (.inr (.inl out))) : ∃ x, lp body ([], 0) = some x ∧ Sum.elim (fun o => (o, (0 : Int))) id x = uY by1 (rs.map fun r => (r, J r)) [] ∧ (∀ o, x = .inl o → o.length ≤ 1024000000) ∧ ∀ o, x = .inr o → o.2 ≠ 0 := by
  refine ⟨_, nC (l := rs) (body := body) (fun o i => (o, i)) (fun o t => if (uY by1 (t.map fun r => (r, J r)) o).2 = 0 then .inl (uY by1 (t.map fun r => (r, J r)) o).1 else .inr (uY by1 (t.map fun r => (r, J r)) o)) (fun o t => o.length + 1024 * t.length ≤ 1024000000) [] ?_ ?_ (by simp; omega), ?_, ?_, ?_⟩
  · intro i r t o hi hl
    simp only [List.length_cons] at hl
    have := hb i r o hi (by omega)
    have h2 := h1 (J r)
    by_cases e : (by1 (J r)).2 ≠ 0
    · right
      rw [if_pos e] at this
      rw [this]
      simp only [List.map_cons, uY, if_pos e, if_neg e]
    · left
      rw [if_neg e] at this
      refine ⟨_, this, by rw [List.length_append, QC]; omega, ?_⟩
      simp only [List.map_cons, uY, if_neg e]
  · intro o _
    rw [he o]
    simp [uY]
  · cases h : (uY by1 (rs.map fun r => (r, J r)) []) with
    | mk a b =>
      by_cases e : b = 0
      · simp [e]
      · simp [e]
  · intro o ho
    have key : ∀ (gs : List (List aH)) (out : List aC), out.length + 1024 * gs.length ≤ 1024000000 → (uY by1 (gs.map fun r => (r, J r)) out).1.length ≤ 1024000000 := by
      intro gs
      induction gs with
      | nil => intro out h; simpa [uY] using h
      | cons r gs ih =>
        intro out h
        simp only [List.map_cons, uY]
        split
        · simp
        · refine ih _ ?_
          have := h1 (J r)
          simp only [List.length_cons] at h
          rw [List.length_append, QC]; omega
    split at ho
    · simp only [Sum.inl.injEq] at ho
      rw [← ho]; exact key rs [] (by simp; omega)
    · cases ho
  · intro o ho
    split at ho
    · cases ho
    · rename_i h
      simp only [Sum.inr.injEq] at ho
      rw [← ho]; exact h

theorem aC4 {j : List aC → Option (List aC × Int)} {y : List aC × Int} {x : List aC ⊕ (List aC × Int)} (hj : ∀ o : List aC, o.length ≤ 1024000000 → j o = some (if 4096 < o.length then ([], 7) else (o, 0))) (hx : Sum.elim (fun o => (o, (0 : Int))) id x = y) (hl : ∀ o, x = .inl o → o.length ≤ 1024000000) (hy : ∀ o, x = .inr o → o.2 ≠ 0) : Sum.elim (fun o => j o) (fun rr : List aC × Int => some (rr.1, rr.2)) x = some (HJ y) := by
  cases x with
  | inl o =>
    simp only [Sum.elim_inl] at hx ⊢
    rw [hj o (hl o rfl), ← hx]
    unfold HJ
    by_cases h : 4096 < o.length <;> simp [h]
  | inr o =>
    simp only [Sum.elim_inr, id] at hx ⊢
    subst hx
    have := hy o rfl
    simp [HJ, this]

theorem aAt {f : List aA} (h1 : f.any sG = false) (h2 : f.any vI = false) : (mO f).2 = 0 ∨ (mO f).2 = 7 := by
  unfold mO
  rw [if_neg (by simp [h1]), if_neg (by simp [h2])]
  unfold told
  split <;> simp

theorem IJ {l : List aC} (h1 : l.any unE = false) (h2 : l.any DY = false) (r : List aH) : (cK l r).any sG = false ∧ (cK l r).any vI = false := by
  constructor
  · refine List.any_eq_false.2 fun j hj => ?_
    obtain ⟨e, he, rfl⟩ := List.mem_map.1 hj
    have := KU h1 e (List.mem_filter.1 he).1
    have h3 : (jE e).Net = e.Net := rfl
    simp only [sG, BX, h3, Bool.not_eq_true', Bool.and_eq_false_iff, decide_eq_false_iff_not, not_or, Decidable.not_not, Bool.not_eq_false, Bool.and_eq_true, decide_eq_true_eq]
    omega
  · refine List.any_eq_false.2 fun j hj => ?_
    obtain ⟨e, he, rfl⟩ := List.mem_map.1 hj
    have := List.any_eq_false.1 h2 e (List.mem_filter.1 he).1
    have h3 : (jE e).At = e.At := rfl
    simp only [DY, Bool.or_eq_true, decide_eq_true_eq, not_or] at this
    simp only [vI, h3, Bool.or_eq_true, decide_eq_true_eq]
    omega

end Go.Abs
namespace Go.Abs
open Go
theorem aBN {l : List aC} (h1 : l.any unE = false) (h2 : l.any DY = false) : ∀ g ∈ JS l, (mO g.2).2 = 0 ∨ (mO g.2).2 = 7 := by
  intro g hg
  obtain ⟨r, _, rfl⟩ := List.mem_map.1 hg
  exact aAt (IJ h1 h2 r).1 (IJ h1 h2 r).2

theorem XQ {l : List aC} (hl : okL l) (hn : l.length ≤ 1000000) : vM l = some (tA l) := by
  unfold vM yP tA
  rw [GD (l := l) (fun i => i) unE (.inr ([], 2)) (.inl ()) ?_ ?_]
  · cases h1 : l.any unE
    · simp only [Bool.false_eq_true, if_false, Option.bind_some, Sum.elim_inl, uK, yF]
      rw [GD (l := l) (fun i => i) DY (.inr ([], 13)) (.inl ()) ?_ ?_]
      · cases h2 : l.any DY
        · have hr := GU hl (fun e he => (KU h1 e he).1) (by omega)
          simp only [Bool.false_eq_true, if_false, Option.bind_some, Sum.elim_inl, uF, hr, yS]
          have hR := YR (by1 := mO) (J := cK l) (rs := rowsOf l) (body := fun s => nH l (rowsOf l) s.1 s.2) JL (by have := DK l; omega) ?_ ?_
          · obtain ⟨x, e1, e2, e3, e4⟩ := hR
            rw [e1]
            simp only [Option.bind_some]
            have hj : ∀ o : List aC, o.length ≤ 1024000000 → rC o = some (if 4096 < o.length then ([], 7) else (o, 0)) := by
              intro o _
              unfold rC
              by_cases h : 4096 < o.length
              · have h' : (4096 : Int) < ((o.length : Nat) : Int) := by omega
                simp [h, h']
              · have h' : ¬ (4096 : Int) < ((o.length : Nat) : Int) := by omega
                simp [h, h']
            exact (aC4 hj e2 e3 e4).trans (congrArg some (PB (aBN h1 h2) (by simp)))
          · intro i r out hi ho
            have := DK l
            have hlt := (List.getElem?_eq_some_iff.1 hi).1
            obtain ⟨d1, d2, d3, d4⟩ := idx hi (by omega)
            have hrow : fV r = true := by
              obtain ⟨e, he, rfl⟩ := AL.1 (List.mem_of_getElem? hi)
              exact (KU h1 e he).1
            have h8 := (wO hrow).1
            have hjl := WX l r
            have hnl := JL (cK l r)
            show nH _ _ _ _ = _
            simp only [nH, d1, cond_true, aQ d2, d3, d4, FQ hl (show l.length ≤ 1099511627776 by omega), Option.bind_some, ZL (show (cK l r).length ≤ 1099511627776 by omega)]
            by_cases e : (mO (cK l r)).2 = 0
            · rw [QH (by omega) (by omega)]
              simp [e]
            · simp [e]
          · intro out
            show nH _ _ _ _ = _
            simp only [nH, cX, cond_false]
        · simp
      · intro i e hi
        obtain ⟨d1, d2, d3, d4⟩ := idx hi (by omega)
        show oY _ _ = _
        simp only [oY, d1, cond_true, aQ d2, d3, d4]
        rw [aQ (fun _ => d2)]
        unfold DY
        cases h : (decide (e.At < -1) || decide (1125899906842624 < e.At)) <;> simp
      · show oY _ _ = _
        simp only [oY, cX, cond_false]
    · simp
  · intro i e hi
    obtain ⟨d1, d2, d3, d4⟩ := idx hi (by omega)
    have hr := hl.2 e (List.mem_of_getElem? hi)
    show pI _ _ = _
    simp only [pI, d1, cond_true, aQ d2, d3, d4, DA e.Row (by omega), Option.bind_some]
    rw [aQ (fun _ => d2), aQ (fun _ => d2)]
    unfold unE
    cases h : (((!fV e.Row) || decide (1048576 < e.Net)) || decide (e.Net < -1048576)) <;> simp
  · show pI _ _ = _
    simp only [pI, cX, cond_false]

abbrev ltE (x y : aC) : Prop := eE x.Row y.Row < 0 ∨ (x.Row = y.Row ∧ x.At < y.At)

theorem aBh {x y z : aC} (h1 : ltE x y) (h2 : ltE y z) : ltE x z := by
  rcases h1 with h1 | ⟨h1, h1'⟩ <;> rcases h2 with h2 | ⟨h2, h2'⟩
  · exact .inl (lG.trans _ _ _ h1 h2)
  · exact .inl (h2 ▸ h1)
  · exact .inl (h1 ▸ h2)
  · exact .inr ⟨h1.trans h2, by omega⟩

theorem EW : ∀ {f : List aA} {last : Int}, iK last f ↔ (∀ j ∈ f, qO last j = false) ∧ f.Pairwise fun a b => a.At < b.At
  | [], last => by simp [iK]
  | j :: f, last => by
    rw [List.pairwise_cons]
    unfold iK
    rw [← mA]
    constructor
    · rintro ⟨h1, h2⟩
      have h3 := EW.1 h2
      have h4 := mA.1 h1
      refine ⟨fun k hk => ?_, fun k hk => (mA.1 (h3.1 k hk)).1, h3.2⟩
      rcases List.mem_cons.1 hk with rfl | hk
      · exact h1
      · have := mA.1 (h3.1 k hk)
        exact mA.2 (by omega)
    · rintro ⟨h1, h2, h3⟩
      refine ⟨h1 j (by simp), EW.2 ⟨fun k hk => ?_, h3⟩⟩
      have := mA.1 (h1 k (by simp [hk]))
      have := h2 k hk
      exact mA.2 (by omega)

theorem ED {l : List aC} : pG l = true ↔ l.length ≤ 4096 ∧ (∀ e ∈ l, fV e.Row = true ∧ qO (-2) (jE e) = false) ∧ l.Pairwise ltE ∧ ∀ r ∈ rowsOf l, (cK l r).length ≤ 1024 := by
  constructor
  · intro h
    obtain ⟨h1, h2, h3⟩ := zJ h
    refine ⟨h1, fun e he => ?_, ?_, fun r _ => (dA.1 (NA h r)).1⟩
    · obtain ⟨a, b, c, d, e1, e2⟩ := aAp h he
      exact ⟨a, mA.2 ⟨b, c, d, e1, e2⟩⟩
    · rw [← BP l]
      unfold flat
      rw [List.flatMap, List.pairwise_flatten, List.pairwise_map]
      constructor
      · intro x hx
        obtain ⟨g, hg, rfl⟩ := List.mem_map.1 hx
        have := (EW.1 (dA.1 (h2 g hg).2).2).2
        rw [fS, List.pairwise_map]
        exact this.imp fun h => .inr ⟨rfl, h⟩
      · refine h3.imp fun {a b} h x hx y hy => ?_
        obtain ⟨j, _, rfl⟩ := List.mem_map.1 hx
        obtain ⟨k, _, rfl⟩ := List.mem_map.1 hy
        exact .inl h
  · rintro ⟨h1, h2, h3, h4⟩
    have hs : Srt leE l := h3.imp fun h => by
      rcases h with h | ⟨h, h'⟩
      · exact .inl h
      · exact .inr ⟨h, by omega⟩
    have hg := sZ hs
    unfold pG
    rw [Bool.and_eq_true]
    refine ⟨by simpa using h1, JF.2 ⟨fun g hg' => ?_, hg, fun q hq => by cases hq⟩⟩
    obtain ⟨_, e, he, h5⟩ := IC hg'
    have hj : g.2 = cK l g.1 := by rw [← zY hg, HQ hg hg']
    refine ⟨by rw [h5]; exact (h2 e he).1, ?_⟩
    rw [hj]
    refine dA.2 ⟨h4 _ (AL.2 ⟨e, he, h5.symm⟩), EW.2 ⟨fun j hj => ?_, ?_⟩⟩
    · obtain ⟨e, he, rfl⟩ := List.mem_map.1 hj
      exact (h2 e (List.mem_filter.1 he).1).2
    · unfold cK
      rw [List.pairwise_map, List.pairwise_filter]
      refine h3.imp fun {a b} h ha hb => ?_
      rcases h with h | ⟨_, h⟩
      · simp only [decide_eq_true_eq] at ha hb
        rw [ha, hb] at h
        exact absurd h zB
      · exact h

theorem aB0 {α : Type} {R : α → α → Prop} (ht : ∀ {x y z}, R x y → R y z → R x z) {l : List α} : l.Pairwise R ↔ ∀ (i : Nat) (a b : α), l[i]? = some a → l[i + 1]? = some b → R a b := by
  constructor
  · intro h i a b ha hb
    obtain ⟨h1, rfl⟩ := List.getElem?_eq_some_iff.1 ha
    obtain ⟨h2, rfl⟩ := List.getElem?_eq_some_iff.1 hb
    exact List.pairwise_iff_getElem.1 h i (i + 1) h1 h2 (by omega)
  · intro h
    refine List.pairwise_iff_getElem.2 fun i j hi hj hij => ?_
    obtain ⟨k, rfl⟩ : ∃ k, j = i + 1 + k := ⟨j - i - 1, by omega⟩
    clear hij
    induction k with
    | zero => exact h i _ _ (List.getElem?_eq_getElem hi) (List.getElem?_eq_getElem hj)
    | succ k ih => exact ht (ih (by omega)) (h (i + 1 + k) _ _ (List.getElem?_eq_getElem (by omega)) (List.getElem?_eq_getElem hj))

def OT (a b : List aH) : Int := if fV a && fV b then eE a b else 0

def EV (l : List aC) (i : Nat) : Bool := !(fV (l.getD i default).Row && !qO (-2) (jE (l.getD i default))) || (decide (i ≠ 0) && (decide (0 < OT (l.getD (i - 1) default).Row (l.getD i default).Row) || (decide (OT (l.getD (i - 1) default).Row (l.getD i default).Row = 0) && decide ((l.getD i default).At ≤ (l.getD (i - 1) default).At))))

theorem QI {l : List aC} : (List.range l.length).any (EV l) = false ↔ (∀ e ∈ l, fV e.Row = true ∧ qO (-2) (jE e) = false) ∧ l.Pairwise ltE := by
  rw [List.any_eq_false, aB0 (R := ltE) (fun h1 h2 => aBh h1 h2)]
  constructor
  · intro h
    have h' : ∀ i, i < l.length → EV l i = false := fun i hi => by simpa using h i (List.mem_range.2 hi)
    refine ⟨fun e he => ?_, fun i a b ha hb => ?_⟩
    · obtain ⟨i, hi, rfl⟩ := List.mem_iff_getElem.1 he
      have := h' i hi
      unfold EV at this
      rw [Bool.or_eq_false_iff] at this
      have h1 := this.1
      simp only [List.getD_eq_getElem?_getD, List.getElem?_eq_getElem hi, Option.getD_some, Bool.not_eq_false', Bool.and_eq_true, Bool.not_eq_true'] at h1
      exact h1
    · obtain ⟨hi, rfl⟩ := List.getElem?_eq_some_iff.1 ha
      obtain ⟨hj, rfl⟩ := List.getElem?_eq_some_iff.1 hb
      have := h' (i + 1) hj
      have r1 := h' i hi
      unfold EV at this r1
      rw [Bool.or_eq_false_iff] at this r1
      have h1 := this.2
      have r2 := this.1
      have r1 := r1.1
      simp only [List.getD_eq_getElem?_getD, List.getElem?_eq_getElem hi, List.getElem?_eq_getElem hj, Option.getD_some, Bool.not_eq_false', Bool.and_eq_true, Bool.not_eq_true'] at r1 r2
      simp only [List.getD_eq_getElem?_getD, Nat.add_sub_cancel, List.getElem?_eq_getElem hi, List.getElem?_eq_getElem hj, Option.getD_some, ne_eq, Nat.add_eq_zero_iff, Nat.one_ne_zero, and_false, not_false_eq_true, decide_true, Bool.true_and, Bool.or_eq_false_iff, decide_eq_false_iff_not, Bool.and_eq_false_iff, OT, r1.1, r2.1, Bool.and_self, if_true] at h1
      by_cases hc : eE l[i].Row l[i + 1].Row = 0
      · refine .inr ⟨(lG.eq _ _).1 hc, ?_⟩
        rcases h1.2 with h | h
        · exact absurd hc h
        · omega
      · exact .inl (by omega)
  · rintro ⟨h1, h2⟩ i hi
    have hi := List.mem_range.1 hi
    unfold EV
    have ge : l.getD i default = l[i] := by simp [List.getD_eq_getElem?_getD, hi]
    have := h1 l[i] (List.getElem_mem hi)
    rw [ge, this.1, this.2]
    by_cases h0 : i = 0
    · simp [h0]
    · have hi' : i - 1 < l.length := by omega
      have ge' : l.getD (i - 1) default = l[i - 1] := by simp [List.getD_eq_getElem?_getD, hi']
      have h3 := h2 (i - 1) l[i - 1] l[i] (List.getElem?_eq_getElem hi') (by rw [show i - 1 + 1 = i by omega]; exact List.getElem?_eq_getElem hi)
      rw [ge']
      have r1 := (h1 l[i - 1] (List.getElem_mem hi')).1
      unfold OT
      rw [r1, this.1]
      rcases h3 with h3 | ⟨h3, h4⟩
      · have a : ¬ 0 < eE l[i - 1].Row l[i].Row := by omega
        have b : ¬ eE l[i - 1].Row l[i].Row = 0 := by omega
        simp [a, b]
      · have a : eE l[i - 1].Row l[i].Row = 0 := (lG.eq _ _).2 h3
        have b : ¬ l[i].At ≤ l[i - 1].At := by omega
        simp [a, b]

theorem HC {l : List aC} (hl : okL l) : rX l = some (pG l) := by
  unfold rX
  by_cases hn : l.length ≤ 4096
  · have h1 : decide ((4096 : Int) < ((l.length : Nat) : Int)) = false := by simp; omega
    rw [h1, cond_false]
    unfold zX
    have hlp := GD (body := fun s => oM l s) (l := List.range l.length) (fun i => i) (EV l) (.inr false) (.inl ()) ?_ ?_
    · rw [hlp]
      cases hb : (List.range l.length).any (EV l)
      · obtain ⟨h2, h3⟩ := QI.1 hb
        have hr := GU hl (fun e he => (h2 e he).1) (by omega)
        simp only [Bool.false_eq_true, if_false, Option.bind_some, Sum.elim_inl, vR, hr, AP]
        have hrl := DK l
        rw [GD (l := rowsOf l) (fun i => i) (fun r => decide (1024 < (cK l r).length)) (.inr false) (.inl ()) ?_ ?_]
        · cases hc : (rowsOf l).any fun r => decide (1024 < (cK l r).length)
          · have : pG l = true := ED.2 ⟨hn, h2, h3, fun r hr => by
              have := List.any_eq_false.1 hc r hr
              simp only [decide_eq_true_eq] at this; omega⟩
            rw [this]; rfl
          · have : pG l = false := by
              rw [Bool.eq_false_iff]
              intro hm
              obtain ⟨r, hr, h4⟩ := List.any_eq_true.1 hc
              have := (ED.1 hm).2.2.2 r hr
              simp only [decide_eq_true_eq] at h4; omega
            rw [this]; rfl
        · intro i r hi
          obtain ⟨d1, d2, d3, d4⟩ := idx hi (by omega)
          show qD _ _ _ = _
          simp only [qD, d1, cond_true, aQ d2, d3, d4, FQ hl (show l.length ≤ 1099511627776 by omega), Option.bind_some]
          by_cases h : 1024 < (cK l r).length
          · have h' : (1024 : Int) < (((cK l r).length : Nat) : Int) := by omega
            simp [h, h']
          · have h' : ¬ (1024 : Int) < (((cK l r).length : Nat) : Int) := by omega
            simp [h, h']
        · show qD _ _ _ = _
          simp only [qD, cX, cond_false]
      · have : pG l = false := by
          rw [Bool.eq_false_iff]
          intro hm
          obtain ⟨_, h2, h3, _⟩ := ED.1 hm
          have := QI.2 ⟨h2, h3⟩
          rw [this] at hb; cases hb
        rw [this]; rfl
    · intro i k hi
      obtain ⟨hi0, hk⟩ := List.getElem?_eq_some_iff.1 hi
      rw [List.getElem_range] at hk
      subst hk
      have hi1 : i < l.length := by simpa using hi0
      have hx := List.getElem?_eq_getElem hi1
      obtain ⟨d1, d2, d3, d4⟩ := idx hx (by omega)
      have hr := hl.2 _ (List.getElem_mem hi1)
      have ge : l.getD i default = l[i] := by simp [List.getD_eq_getElem?_getD, hi1]
      show oM _ _ = _
      simp only [oM, d1, cond_true, aQ d2, d3, DA l[i].Row (by omega), Option.bind_some]
      rw [aQ (fun _ => d2), aQ (fun _ => d2)]
      have hm : mT [⟨l[i].At, l[i].Net⟩] = some (!qO (-2) (jE l[i])) := by
        rw [CH]
        simp only [dD, chk, List.length_cons, List.length_nil, jE]
        cases qO (-2) ⟨l[i].At, l[i].Net⟩ <;> rfl
      rw [hm]
      unfold EV
      rw [ge]
      cases h2 : fV l[i].Row
      · simp [cM]
      · cases h3 : qO (-2) (jE l[i])
        · simp only [cM, Bool.not_true, Bool.not_false, cond_true, Option.bind_some, Bool.or_self, cond_false, Bool.and_self]
          by_cases h0 : i = 0
          · subst h0
            simp [sR, dI]
          · have hi' : i - 1 < l.length := by omega
            have hw : IntKind.i64.wrap ((i : Int) - 1) = ((i - 1 : Nat) : Int) := by rw [dI (by omega) (by omega)]; omega
            have hx' := List.getElem?_eq_getElem hi'
            obtain ⟨_, e2, e3, _⟩ := idx hx' (by omega)
            have ge' : l.getD (i - 1) default = l[i - 1] := by simp [List.getD_eq_getElem?_getD, hi']
            have hr' := hl.2 _ (List.getElem_mem hi')
            have hz : decide ((i : Int) = 0) = false := by simp; omega
            simp only [hz, cond_false, hw, aQ e2, aQ d2, e3, d3, ge']
            rw [JG _ _ (by omega) (by omega), show (if (fV l[i - 1].Row && fV l[i].Row) = true then eE l[i - 1].Row l[i].Row else 0) = OT l[i - 1].Row l[i].Row from rfl]
            simp only [Option.bind_some, sR, d4]
            rw [aQ (fun _ => e2), aQ (fun _ => d2)]
            generalize OT l[i - 1].Row l[i].Row = c
            cases hz2 : (decide (0 < c) || (decide (c = 0) && decide (l[i].At ≤ l[i - 1].At)))
            · simp
            · simp [h0]
        · simp [cM]
    · show oM _ _ = _
      simp only [oM, List.length_range, cX, cond_false]
  · have h1 : decide ((4096 : Int) < ((l.length : Nat) : Int)) = true := by simp; omega
    rw [h1, cond_true]
    simp [pG, hn]

end Go.Abs
namespace Go.Abs
open Go
theorem WV {l : List aC} (hm : pG l = true) : JS l = groups l := by
  obtain ⟨_, _, hp, _⟩ := ED.1 hm
  have hs : Srt leE l := hp.imp fun h => by
    rcases h with h | ⟨h, h'⟩
    · exact .inl h
    · exact .inr ⟨h, by omega⟩
  have hg := sZ hs
  unfold JS
  rw [← LF (List.Perm.refl l) hs, List.map_map]
  conv => rhs; rw [← List.map_id (groups l)]
  refine List.map_congr_left fun g hg' => ?_
  simp only [Function.comp, id]
  rw [← zY hg, HQ hg hg']

theorem ZF {a b : List aC} (ha : okL a) (hb : okL b) : xZ a b = some (IV a b) := by
  unfold xZ IV
  rw [HC ha]
  cases h1 : pG a
  · simp [cM]
  · simp only [Option.bind_some, Bool.not_true, Bool.not_false, cM, cond_true, HC hb, Bool.false_or]
    cases h2 : pG b
    · simp
    · have la := (zJ h1).1
      have lb := (zJ h2).1
      simp only [Bool.not_true, cond_false, Bool.and_self, if_true]
      rw [aQ ⟨by omega, by omega⟩, aQ ⟨by omega, by omega⟩, XQ (HF ha hb (by omega)) (by simp; omega)]
      rfl

def vO (what t : Int) (f : List aA) : List aA × Int := if what = 2 then rest f t else if what = 1 then ahead f t else JM f

theorem VA (what t : Int) (f : List aA) : (vO what t f).1.length ≤ 1024 := by
  unfold vO
  split
  · exact SH f t
  · split
    · exact PZ f t
    · unfold JM
      split
      · rename_i h; rw [TI]; exact (dA.1 h).1
      · simp

theorem TC (f : List aA) : (told f).2 = 0 ∨ (told f).2 = 7 := by unfold told; split <;> simp

theorem aBK {what t : Int} {f : List aA} (hf : dD f = true) : (vO what t f).2 = 0 ∨ (vO what t f).2 = 7 := by
  unfold vO
  split
  · unfold rest
    rw [if_pos hf]
    split
    · exact .inl rfl
    · split
      · exact .inl rfl
      · exact TC _
  · split
    · unfold ahead
      rw [if_pos hf]
      split
      · exact .inl rfl
      · exact TC _
    · unfold JM
      rw [if_pos hf]
      exact .inl rfl

theorem aBl {l : List aC} (hl : okL l) {what t : Int} (ht : AM t) : rW l what t = some (wC (vO what t) l) := by
  unfold rW wC
  rw [HC hl]
  cases hm : pG l
  · simp
  · obtain ⟨hn, hv, _, _⟩ := ED.1 hm
    have hrl := DK l
    simp only [Option.bind_some, Bool.not_true, cond_false, if_true, GU hl (fun e he => (hv e he).1) (show l.length ≤ 1099511627776 by omega), zW]
    have hR := YR (by1 := vO what t) (J := cK l) (rs := rowsOf l) (body := fun s => oN l what t (rowsOf l) s.1 s.2) (VA what t) (by omega) ?_ ?_
    · obtain ⟨x, e1, e2, e3, e4⟩ := hR
      rw [e1]
      simp only [Option.bind_some]
      have hj : ∀ o : List aC, o.length ≤ 1024000000 → sO o = some (if 4096 < o.length then ([], 7) else (o, 0)) := by
        intro o _
        unfold sO
        by_cases h : 4096 < o.length
        · have h' : (4096 : Int) < ((o.length : Nat) : Int) := by omega
          simp [h, h']
        · have h' : ¬ (4096 : Int) < ((o.length : Nat) : Int) := by omega
          simp [h, h']
      rw [← WV hm]
      refine (aC4 hj e2 e3 e4).trans (congrArg some (PB (fun g hg => ?_) (by simp)))
      obtain ⟨r, _, rfl⟩ := List.mem_map.1 hg
      exact aBK (NA hm r)
    · intro i r out hi ho
      obtain ⟨d1, d2, d3, d4⟩ := idx hi (by omega)
      have hrow : r.length ≤ 8 := by
        obtain ⟨e, he, rfl⟩ := AL.1 (List.mem_of_getElem? hi)
        exact (wO (hv e he).1).1
      have hml := VA what t (cK l r)
      have h4 : sS l what t out (rowsOf l) (i : Int) (vO what t (cK l r)).1 (vO what t (cK l r)).2 = some (if (vO what t (cK l r)).2 ≠ 0 then .inr (.inr ([], (vO what t (cK l r)).2)) else .inl (out ++ fS r (vO what t (cK l r)).1, ((i + 1 : Nat) : Int))) := by
        unfold sS
        generalize vO what t (cK l r) = y at hml ⊢
        by_cases e : y.2 = 0
        · simp only [e, decide_true, Bool.not_true, cond_false, ne_eq, not_true_eq_false, if_false, aQ d2, d3]
          rw [QH (by omega) (by omega)]
          simp only [Option.bind_some, d4]
        · simp [e]
      show oN _ _ _ _ _ _ = _
      rw [← h4]
      simp only [oN, d1, cond_true, aQ d2, d3, FQ hl (show l.length ≤ 1099511627776 by omega), Option.bind_some, aAA, XA, wB, ZT _ _ ht]
      unfold vO
      by_cases c2 : what = 2
      · have c1 : ¬ what = 1 := by omega
        simp [c2]
      · by_cases c1 : what = 1
        · simp [c1]
        · simp [c1, c2, JM]
    · intro out
      show oN _ _ _ _ _ _ = _
      simp only [oN, cX, cond_false]

end Go.Abs
namespace Go.Abs
open Go
theorem aA5 {a b : List aC} (ha : okL a) (hb : okL b) (h : a.length + b.length ≤ 1000000) : okL (IV a b).1 := by
  unfold IV
  split
  · exact aAG (HF ha hb (by omega))
  · exact KT

theorem RU (l0 : (List aC)) (m0 : ∀ a ∈ l0, rS a) (y0 : List.length l0 * 40 ≤ 140737488351232) (l1 : (List aC)) (m1 : ∀ a ∈ l1, rS a) (y1 : List.length l1 * 40 ≤ 140737488351232) (a2 : Int) (w2 : AM a2) : tB l0 l1 a2 = some true := by
  have k0 := aAP m0 y0
  have k1 := aAP m1 y1
  unfold tB xM
  simp only [Option.bind_some]
  by_cases c0 : ((List.length l0 : Nat) : Int) ≤ 60
  · by_cases c1 : ((List.length l1 : Nat) : Int) ≤ 60
    · have kA : okL (IV l0 l1).1 := aA5 k0 k1 (by omega)
      have kN : okL (ZQ l0).1 := MI k0
      have n0 : wC (vO 0 a2) l0 = ZQ l0 := rfl
      have n1 : wC (vO 1 a2) l0 = MY l0 a2 := rfl
      have n2 : wC (vO 2 a2) l0 = RW l0 a2 := rfl
      simp only [c0, c1, decide_true, Bool.not_true, Bool.not_false, cM, cond_true, Option.bind_some, Bool.or_self, cond_false]
      rw [YH k0 k1, ZF k0 k1]
      simp only [Option.bind_some, decide_true, Bool.not_true, Bool.not_false, cond_true, BZ kA, Bool.or_self, cond_false, aCU k0, aBl k0 w2, n0, n1, n2, BZ kN, aAu k0, BZ (ZZ k0 a2), aBG k0, LS, BZ (aAM k0 a2), Bool.and_self]
    · simp [c0, c1, cM, LS]
  · simp [c0, cM, LS]

end Go.Abs
