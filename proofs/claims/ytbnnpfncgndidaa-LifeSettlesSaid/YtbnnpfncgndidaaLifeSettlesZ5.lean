/- What the law LifeSettles stands on: the framework, the given functions as plain functions, their walks, and the plain laws; part 5. -/
import Derived.Test.YtbnnpfncgndidaaLifeSettlesZ4
set_option linter.unusedSimpArgs false
set_option linter.unusedVariables false
namespace Go.Abs
open Go
theorem JN {by0 : List aB → Option (List aB × Int)} {by1 : List aB → List aB × Int} (c : List aC) : ∀ (gs : List (List aF × List aB)) (out : List aC), out.length ≤ 4096 → (∀ g ∈ gs, by0 g.2 = some (by1 g.2) ∧ (by1 g.2).1.length ≤ 1024 ∧ g.1.length ≤ 4398046510976) →
    ∃ x, itG (fun st r f => rnd (fun (s : (List aC) × Int × List aC) => lU by0 c s.1 s.2.1 s.2.2 r f) st) gs (.inl ([], 0, out)) = some x ∧ Sum.elim (fun s : (List aC) × Int × List aC => (s.2.2, (0 : Int))) (fun s => (s.1, s.2.1)) x = lP by1 gs out
  | [], out, _, _ => ⟨_, rfl, rfl⟩
  | g :: gs, out, ho, hg => by
    obtain ⟨h1, h2, h3⟩ := hg g (by simp)
    have hy : lU by0 c [] 0 out g.1 g.2 = some (if (by1 g.2).2 ≠ 0 then .inr ([], (by1 g.2).2, out) else if 4096 < (out ++ fR g.1 (by1 g.2).1).length then .inr ([], 7, out ++ fR g.1 (by1 g.2).1) else .inl ([], 0, out ++ fR g.1 (by1 g.2).1)) := by
      unfold lU
      simp only [h1, Option.bind_some, put_eq h3 (show out.length + (by1 g.2).1.length ≤ 1099511627776 by omega)]
      by_cases e1 : (by1 g.2).2 = 0
      · by_cases e2 : 4096 < (out ++ fR g.1 (by1 g.2).1).length
        · have e2' : (4096 : Int) < (((out ++ fR g.1 (by1 g.2).1).length : Nat) : Int) := by omega
          simp only [e1, e2, e2', decide_true, Bool.not_true, cond_false, cond_true, ne_eq, not_true_eq_false, if_false, if_true]
        · have e2' : ¬ (4096 : Int) < (((out ++ fR g.1 (by1 g.2).1).length : Nat) : Int) := by omega
          simp only [e1, e2, e2', decide_true, decide_false, Bool.not_true, cond_false, ne_eq, not_true_eq_false, if_false]
      · simp only [e1, decide_false, Bool.not_false, cond_true, ne_eq, not_false_eq_true, if_true]
    simp only [itG, rnd, hy, Option.bind_some, lP]
    by_cases e1 : (by1 g.2).2 ≠ 0
    · rw [if_pos e1, if_pos e1]; exact ⟨_, rfl, rfl⟩
    · rw [if_neg e1, if_neg e1]
      by_cases e2 : 4096 < (out ++ fR g.1 (by1 g.2).1).length
      · rw [if_pos e2, if_pos e2]; exact ⟨_, rfl, rfl⟩
      · rw [if_neg e2, if_neg e2]
        exact JN c gs _ (by omega) (fun q hq => hg q (by simp [hq]))

theorem IF {l : List aC} (hl : okL l) {by0 : List aB → Option (List aB × Int)} {by1 : List aB → List aB × Int} (hb : ∀ g ∈ groups l, by0 g.2 = some (by1 g.2) ∧ (by1 g.2).1.length ≤ 1024 ∧ g.1.length ≤ 4398046510976) : nZ l by0 = some (lP by1 (groups l) []) := by
  unfold nZ
  simp only [qF, Option.bind_some, rQ]
  obtain ⟨x, e1, e2⟩ := JN (by0 := by0) (by1 := by1) l (groups l) [] (by simp) hb
  rw [PT hl e1]
  cases x <;> simpa using e2

def flat (gs : List (List aF × List aB)) : List aC := gs.flatMap fun g => fR g.1 g.2

theorem HI : ∀ (l : List aC) (r : List aF) (f : List aB), flat (gA r f l) = fR r f ++ l
  | [], r, f => by simp [gA, flat]
  | e :: l, r, f => by
    unfold gA
    split
    · rename_i h
      rw [HI l r]
      simp [fR, jE, ← h]
    · have := HI l e.Row [jE e]
      simp only [flat, List.flatMap_cons] at this ⊢
      rw [this]
      simp [fR, jE]

theorem sN (l : List aC) : flat (groups l) = l := by
  cases l with
  | nil => rfl
  | cons e l => unfold groups; rw [HI]; simp [fR, jE]

theorem NU {r : List aF} : ∀ {l : List aC} {f : List aB} {g : List aF × List aB}, g ∈ gA r f l → f ≠ [] → g.2 ≠ [] ∧ (g.1 = r ∨ ∃ e ∈ l, g.1 = e.Row)
  | [], f, g, h, hf => by simp only [gA, List.mem_singleton] at h; subst h; exact ⟨hf, .inl rfl⟩
  | e :: l, f, g, h, hf => by
    unfold gA at h
    split at h
    · obtain ⟨h1, h2⟩ := NU h (by simp)
      exact ⟨h1, h2.imp id fun ⟨x, hx, hx'⟩ => ⟨x, by simp [hx], hx'⟩⟩
    · rcases List.mem_cons.1 h with rfl | h
      · exact ⟨hf, .inl rfl⟩
      · obtain ⟨h1, h2⟩ := NU (r := e.Row) h (by simp)
        refine ⟨h1, .inr ?_⟩
        rcases h2 with h2 | ⟨x, hx, hx'⟩
        · exact ⟨e, by simp, h2⟩
        · exact ⟨x, by simp [hx], hx'⟩

theorem AY {l : List aC} {g : List aF × List aB} (h : g ∈ groups l) : g.2 ≠ [] ∧ ∃ e ∈ l, g.1 = e.Row := by
  cases l with
  | nil => simp [groups] at h
  | cons e l =>
    obtain ⟨h1, h2⟩ := NU h (by simp)
    refine ⟨h1, ?_⟩
    rcases h2 with h2 | ⟨x, hx, hx'⟩
    · exact ⟨e, by simp, h2⟩
    · exact ⟨x, by simp [hx], hx'⟩

end Go.Abs
namespace Go.Abs
open Go
def bN (l : List aC) (r : List aF) : List aB := (l.filter fun e => decide (e.Row = r)).map jE

theorem vF (a b : List aC) (r : List aF) : bN (a ++ b) r = bN a r ++ bN b r := by simp [bN]

theorem KE (q : List aF) (f : List aB) (r : List aF) : bN (fR q f) r = if q = r then f else [] := by
  induction f with
  | nil => simp [bN, fR]
  | cons j f ih =>
    have h1 : fR q (j :: f) = [⟨q, j.At, j.Net⟩] ++ fR q f := rfl
    rw [h1, vF, ih]
    by_cases h : q = r <;> simp [bN, jE, h]

def look : List (List aF × List aB) → List aF → List aB
  | [], _ => []
  | g :: gs, r => if g.1 = r then g.2 else look gs r

theorem oZ (g : List aF × List aB) (gs : List (List aF × List aB)) (r : List aF) : look (g :: gs) r = if g.1 = r then g.2 else look gs r := rfl

abbrev ltG (a b : List aF × List aB) : Prop := iD a.1 b.1 < 0

abbrev qK (gs : List (List aF × List aB)) : Prop := gs.Pairwise ltG

abbrev Full (gs : List (List aF × List aB)) : Prop := ∀ g ∈ gs, g.2 ≠ []

theorem nJ {a : List aF} : ¬ iD a a < 0 := by rw [(iE.eq a a).2 rfl]; omega

theorem tN : ∀ {gs : List (List aF × List aB)} {r : List aF}, (∀ g ∈ gs, g.1 ≠ r) → look gs r = []
  | [], _, _ => rfl
  | g :: gs, r, h => by
    rw [oZ]
    rw [if_neg (h g (by simp))]
    exact tN fun q hq => h q (by simp [hq])

theorem uC (gs : List (List aF × List aB)) (r : List aF) : (look gs r = [] ∧ ∀ g ∈ gs, g.1 ≠ r) ∨ ∃ g ∈ gs, g.1 = r ∧ look gs r = g.2 := by
  induction gs with
  | nil => exact .inl ⟨rfl, by simp⟩
  | cons g gs ih =>
    rw [oZ]
    by_cases h : g.1 = r
    · rw [if_pos h]; exact .inr ⟨g, by simp, h, rfl⟩
    · rw [if_neg h]
      rcases ih with ⟨h1, h2⟩ | ⟨q, hq, h1, h2⟩
      · refine .inl ⟨h1, fun q hq => ?_⟩
        rcases List.mem_cons.1 hq with rfl | hq
        · exact h
        · exact h2 q hq
      · exact .inr ⟨q, by simp [hq], h1, h2⟩

theorem xH {gs : List (List aF × List aB)} (hs : qK gs) {g : List aF × List aB} (hg : g ∈ gs) : look gs g.1 = g.2 := by
  induction gs with
  | nil => simp at hg
  | cons q gs ih =>
    have hs' := List.pairwise_cons.1 hs
    rw [oZ]
    rcases List.mem_cons.1 hg with rfl | hg
    · rw [if_pos rfl]
    · rw [if_neg (fun e => by have := hs'.1 g hg; simp only [ltG, e] at this; exact nJ this)]
      exact ih hs'.2 hg

theorem qW (g : List aF × List aB) (gs : List (List aF × List aB)) : flat (g :: gs) = fR g.1 g.2 ++ flat gs := rfl

theorem uB : ∀ {gs : List (List aF × List aB)}, qK gs → ∀ r, bN (flat gs) r = look gs r
  | [], _, r => rfl
  | g :: gs, hs, r => by
    have hs' := List.pairwise_cons.1 hs
    rw [qW, vF, KE, uB hs'.2, oZ]
    by_cases h : g.1 = r
    · rw [if_pos h, if_pos h, tN, List.append_nil]
      intro q hq e
      have := hs'.1 q hq
      simp only [ltG, h, e] at this; exact nJ this
    · rw [if_neg h, if_neg h]; rfl

theorem QJ : ∀ {gs hs : List (List aF × List aB)}, qK gs → qK hs → Full gs → Full hs → (∀ r, look gs r = look hs r) → gs = hs
  | [], [], _, _, _, _, _ => rfl
  | [], h :: hs, _, _, _, fh, he => by
    have := he h.1
    simp only [oZ, look, if_true] at this
    exact absurd this.symm (fh h (by simp))
  | g :: gs, [], _, _, fg, _, he => by
    have := he g.1
    simp only [oZ, look, if_true] at this
    exact absurd this (fg g (by simp))
  | g :: gs, h :: hs, sg, sh, fg, fh, he => by
    have sg' := List.pairwise_cons.1 sg
    have sh' := List.pairwise_cons.1 sh
    by_cases e : g.1 = h.1
    · have h2 := he g.1
      simp only [look, if_true, if_pos e.symm] at h2
      have ht : gs = hs := QJ sg'.2 sh'.2 (fun q hq => fg q (by simp [hq])) (fun q hq => fh q (by simp [hq])) fun r => by
        by_cases hr : g.1 = r
        · subst hr
          rw [tN (gs := gs), tN (gs := hs)]
          · intro q hq e'; have := sh'.1 q hq; simp only [ltG, ← e, e'] at this; exact nJ this
          · intro q hq e'; have := sg'.1 q hq; simp only [ltG, e'] at this; exact nJ this
        · have := he r
          simp only [look, if_neg hr, if_neg (fun x => hr (e.trans x))] at this
          exact this
      rw [ht]
      obtain ⟨g1, g2⟩ := g
      obtain ⟨h1, h3⟩ := h
      simp only at e h2
      rw [e, h2]
    · exfalso
      have hne : iD g.1 h.1 ≠ 0 := fun x => e ((iE.eq _ _).1 x)
      by_cases hlt : iD g.1 h.1 < 0
      · have h2 := he g.1
        rw [xH sg (by simp), tN] at h2
        · exact fg g (by simp) h2
        · intro q hq e'
          rcases List.mem_cons.1 hq with rfl | hq
          · exact e e'.symm
          · have := iE.trans _ _ _ hlt (sh'.1 q hq)
            rw [e'] at this; exact nJ this
      · have hlt' : iD h.1 g.1 < 0 := (iE.anti _ _).2 (by omega)
        have h2 := he h.1
        rw [xH sh (by simp), tN] at h2
        · exact fh h (by simp) h2.symm
        · intro q hq e'
          rcases List.mem_cons.1 hq with rfl | hq
          · exact e e'
          · have := iE.trans _ _ _ hlt' (sg'.1 q hq)
            rw [e'] at this; exact nJ this

theorem tQ {p : List aB → Bool} : ∀ {gs : List (List aF × List aB)} {last : Option (List aF)}, tF p last gs = true ↔ (∀ g ∈ gs, oN g.1 = true ∧ p g.2 = true) ∧ qK gs ∧ (∀ q, last = some q → ∀ g ∈ gs, iD q g.1 < 0)
  | [], last => by simp [tF]
  | g :: gs, last => by
    unfold tF
    simp only [Bool.and_eq_true, tQ (gs := gs), List.mem_cons, List.pairwise_cons]
    constructor
    · rintro ⟨⟨⟨h1, h2⟩, h3⟩, h4, h5, h6⟩
      refine ⟨?_, ⟨fun q hq => h6 _ rfl q hq, h5⟩, ?_⟩
      · rintro q (rfl | hq)
        · exact ⟨h1, h3⟩
        · exact h4 q hq
      · rintro q rfl x (rfl | hx)
        · simpa [ahd] using h2
        · simp only [ahd, decide_eq_true_eq] at h2
          exact iE.trans _ _ _ h2 (h6 _ rfl x hx)
    · rintro ⟨h1, ⟨h2, h3⟩, h4⟩
      refine ⟨⟨⟨(h1 g (.inl rfl)).1, ?_⟩, (h1 g (.inl rfl)).2⟩, fun q hq => h1 q (.inr hq), h3, ?_⟩
      · unfold ahd
        split
        · rfl
        · exact decide_eq_true (h4 _ rfl g (.inl rfl))
      · rintro q hq x hx
        cases hq
        exact h2 x hx

theorem DX (l : List aC) : Full (groups l) := fun _ hg => (AY hg).1

theorem nY {l : List aC} (h : kQ l = true) : l.length ≤ 4096 ∧ (∀ g ∈ groups l, oN g.1 = true ∧ eB g.2 = true) ∧ qK (groups l) := by
  simp only [kQ, Bool.and_eq_true, decide_eq_true_eq] at h
  obtain ⟨h1, h2, _⟩ := tQ.1 h.2
  exact ⟨h.1, h1, h2⟩

theorem SK {l : List aC} (h : kQ l = true) (r : List aF) : eB (look (groups l) r) = true := by
  rcases uC (groups l) r with ⟨h1, _⟩ | ⟨g, hg, _, h1⟩
  · rw [h1]; exact DI
  · rw [h1]; exact ((nY h).2.1 g hg).2

theorem VZ {a b : List aC} (ha : kQ a = true) (hb : kQ b = true) (h : ∀ r, look (groups a) r = look (groups b) r) : a = b := by
  rw [← sN a, ← sN b, QJ (nY ha).2.2 (nY hb).2.2 (DX a) (DX b) h]

theorem pJ {l : List aC} (h : qK (groups l)) (r : List aF) : look (groups l) r = bN l r := by
  rw [← uB h, sN]

theorem PW (r : List aF) (f : List aB) (e : aC) (l : List aC) : gA r f (e :: l) = if e.Row = r then gA r (f ++ [jE e]) l else (r, f) :: gA e.Row [jE e] l := rfl

theorem ML (r : List aF) : ∀ (f2 f : List aB) (l : List aC), gA r f (fR r f2 ++ l) = gA r (f ++ f2) l
  | [], f, l => by simp [fR]
  | j :: f2, f, l => by
    show gA r f (⟨r, j.At, j.Net⟩ :: (fR r f2 ++ l)) = _
    rw [PW, if_pos rfl, ML r f2]
    simp [jE]

theorem JH : ∀ {gs : List (List aF × List aB)}, qK gs → Full gs → groups (flat gs) = gs
  | [], _, _ => rfl
  | (r, f) :: gs, hs, hf => by
    have hs' := List.pairwise_cons.1 hs
    have hne := hf (r, f) (by simp)
    have ih := JH hs'.2 (fun g hg => hf g (by simp [hg]))
    cases f with
    | nil => exact absurd rfl hne
    | cons j f =>
      rw [qW]
      show gA r [jE ⟨r, j.At, j.Net⟩] (fR r f ++ flat gs) = _
      rw [ML]
      have key : ∀ (F : List aB), gA r F (flat gs) = (r, F) :: groups (flat gs) := by
        intro F
        cases gs with
        | nil => rfl
        | cons g gs =>
          obtain ⟨q, f'⟩ := g
          have hq := hf (q, f') (by simp)
          cases f' with
          | nil => exact absurd rfl hq
          | cons j' f' =>
            have hqr : q ≠ r := fun e => by
              have := hs'.1 (q, j' :: f') (by simp)
              simp only [ltG, e] at this; exact nJ this
            rw [qW]
            show gA r F (⟨q, j'.At, j'.Net⟩ :: (fR q f' ++ flat gs)) = _
            rw [gA, if_neg hqr]
            rfl
      rw [key, ih]
      rfl

def CJ (gs : List (List aF × List aB)) : List (List aF × List aB) := gs.filter fun g => !g.2.isEmpty

theorem xR : ∀ (gs : List (List aF × List aB)), flat (CJ gs) = flat gs
  | [] => rfl
  | (r, []) :: gs => by
    have : CJ ((r, []) :: gs) = CJ gs := rfl
    rw [this, xR gs, qW]; rfl
  | (r, j :: f) :: gs => by
    have : CJ ((r, j :: f) :: gs) = (r, j :: f) :: CJ gs := rfl
    rw [this, qW, qW, xR gs]

theorem TN (gs : List (List aF × List aB)) : Full (CJ gs) := by
  intro g hg
  have := (List.mem_filter.1 hg).2
  intro h; rw [h] at this; simp at this

theorem xX {gs : List (List aF × List aB)} (hs : qK gs) : groups (flat gs) = CJ gs := by
  rw [← xR]
  exact JH (hs.filter _) (TN gs)

theorem JR {gs : List (List aF × List aB)} (hs : qK gs) (r : List aF) : look (groups (flat gs)) r = look gs r := by
  have h1 := uB (gs := CJ gs) (hs.filter _) r
  rw [xX hs, ← h1, ← uB hs, xR]

theorem IZ {gs : List (List aF × List aB)} (hs : qK gs) (hm : ∀ g ∈ gs, oN g.1 = true ∧ eB g.2 = true) (hl : (flat gs).length ≤ 4096) : kQ (flat gs) = true := by
  simp only [kQ, Bool.and_eq_true, decide_eq_true_eq]
  refine ⟨hl, tQ.2 ?_⟩
  rw [xX hs]
  exact ⟨fun g hg => hm g (List.mem_filter.1 hg).1, hs.filter _, by simp⟩

def zN (by1 : List aB → List aB × Int) (gs : List (List aF × List aB)) : List (List aF × List aB) := gs.map fun g => (g.1, (by1 g.2).1)

theorem zV {by1 : List aB → List aB × Int} {gs : List (List aF × List aB)} (hs : qK gs) : qK (zN by1 gs) := by
  rw [qK, zN, List.pairwise_map]; exact hs

theorem DA {by1 : List aB → List aB × Int} (h0 : (by1 []).1 = []) : ∀ (gs : List (List aF × List aB)) (r : List aF), look (zN by1 gs) r = (by1 (look gs r)).1
  | [], r => h0.symm
  | g :: gs, r => by
    show look ((g.1, (by1 g.2).1) :: zN by1 gs) r = _
    rw [oZ, oZ]
    by_cases h : g.1 = r
    · rw [if_pos h, if_pos h]
    · rw [if_neg h, if_neg h]; exact DA h0 gs r

theorem HV {by1 : List aB → List aB × Int} : ∀ {gs : List (List aF × List aB)} {out : List aC}, out.length ≤ 4096 → (lP by1 gs out).2 = 0 → (∀ g ∈ gs, (by1 g.2).2 = 0) ∧ (lP by1 gs out).1 = out ++ flat (zN by1 gs) ∧ (lP by1 gs out).1.length ≤ 4096
  | [], out, ho, _ => by simp [lP, zN, flat, ho]
  | g :: gs, out, ho, h => by
    unfold lP at h ⊢
    by_cases e1 : (by1 g.2).2 = 0
    · rw [if_neg (by simp [e1])] at h ⊢
      by_cases e2 : 4096 < (out ++ fR g.1 (by1 g.2).1).length
      · rw [if_pos e2] at h; simp at h
      · rw [if_neg e2] at h ⊢
        obtain ⟨h1, h2, h3⟩ := HV (by omega) h
        refine ⟨?_, ?_, h3⟩
        · intro q hq
          rcases List.mem_cons.1 hq with rfl | hq
          · exact e1
          · exact h1 q hq
        · rw [h2]; simp [zN, qW]
    · rw [if_pos e1] at h; exact absurd h e1

theorem FE {by1 : List aB → List aB × Int} : ∀ {gs : List (List aF × List aB)} {out : List aC}, (lP by1 gs out).2 ≠ 0 → (lP by1 gs out).1 = []
  | [], out, h => by simp [lP] at h
  | g :: gs, out, h => by
    unfold lP at h ⊢
    split
    · rfl
    · rename_i e1
      rw [if_neg e1] at h
      split
      · rfl
      · rename_i e2
        rw [if_neg e2] at h
        exact FE h

def sD (by1 : List aB → List aB × Int) (l : List aC) : List aC × Int := if kQ l then lP by1 (groups l) [] else ([], 2)

theorem DF {l : List aC} (hl : okL l) {g : List aF × List aB} (hg : g ∈ groups l) : g.1.length ≤ 4398046510976 := by
  obtain ⟨_, e, he, h⟩ := AY hg
  rw [h]; exact hl.2 e he

theorem all_eq {l : List aC} (hl : okL l) {by0 : List aB → Option (List aB × Int)} {by1 : List aB → List aB × Int} (hb : ∀ f, by0 f = some (by1 f)) (h1 : ∀ f, (by1 f).1.length ≤ 1024) : rP l by0 = some (sD by1 l) := by
  unfold rP sD
  rw [QA hl]
  cases h : kQ l
  · rfl
  · simp only [Option.bind_some, Bool.not_true, cond_false, if_true]
    rw [IF hl (fun g hg => ⟨hb g.2, h1 g.2, DF hl hg⟩)]
    rfl

theorem tO {by1 : List aB → List aB × Int} {l : List aC} (h : (sD by1 l).2 = 0) : kQ l = true ∧ (∀ g ∈ groups l, (by1 g.2).2 = 0) ∧ (sD by1 l).1 = flat (zN by1 (groups l)) ∧ (sD by1 l).1.length ≤ 4096 := by
  unfold sD at h ⊢
  cases hm : kQ l
  · rw [hm] at h; simp at h
  · rw [hm] at h
    simp only [if_true] at h ⊢
    obtain ⟨h1, h2, h3⟩ := HV (by simp) h
    exact ⟨trivial, h1, by simpa using h2, h3⟩

theorem JQ {by1 : List aB → List aB × Int} (h0 : (by1 []).1 = []) {l : List aC} (h : (sD by1 l).2 = 0) (r : List aF) : look (groups (sD by1 l).1) r = (by1 (look (groups l) r)).1 := by
  obtain ⟨h1, h2, h3, _⟩ := tO h
  rw [h3, JR (zV (nY h1).2.2), DA h0]

theorem NH {by1 : List aB → List aB × Int} (h0 : (by1 []).2 = 0) {l : List aC} (h : (sD by1 l).2 = 0) (r : List aF) : (by1 (look (groups l) r)).2 = 0 := by
  obtain ⟨h1, h2, _, _⟩ := tO h
  rcases uC (groups l) r with ⟨e, _⟩ | ⟨g, hg, _, e⟩
  · rw [e]; exact h0
  · rw [e]; exact h2 g hg

theorem yM {f g : List aC} (hl : okL f) : mG f g = some (decide (f = g)) := by
  unfold mG
  by_cases he : f.length = g.length
  · rw [LZ he, cond_false]
    unfold sX
    have := KK (f := f) (g := g) (body := fun s => oD f g s) he ?_ ?_ f.length 0 rfl (Nat.zero_le _)
    · simp only [Int.natCast_zero, List.drop_zero] at this
      rw [this]
      by_cases h : f = g <;> simp [h, pW]
    · intro i x y hx hy
      have hll := hl.1
      obtain ⟨d1, d2, d3, d4⟩ := idx hx (by omega)
      obtain ⟨_, e2, e3, _⟩ := idx hy (by omega)
      have hr := hl.2 x (List.mem_of_getElem? hx)
      simp only [oD, d1, cond_true, bC d2, bC e2, d3, e3, d4, eX]
      rw [bC (fun _ => d2), bC (fun _ => e2), bC (fun _ => d2), bC (fun _ => e2), KB x.Row y.Row (by omega)]
      obtain ⟨x1, x2, x3⟩ := x
      obtain ⟨y1, y2, y3⟩ := y
      by_cases h1 : x2 = y2 <;> by_cases h2 : x3 = y3 <;> by_cases h3 : x1 = y1 <;> simp [h1, h2, h3]
    · simp only [oD, lZ, cond_false]
  · rw [NV he, cond_true]
    have : f ≠ g := fun h => he (by rw [h])
    simp [this]

end Go.Abs
namespace Go.Abs
theorem UM : @cU = @lY aC _ := rfl

theorem RB : @dA = @dG aC _ := rfl

theorem LC (cmp) : ∀ k, @fN cmp k = @dI aC _ cmp k
  | 0 => rfl
  | k + 1 => by
    show dA cmp _ = dG cmp _
    rw [LC cmp k, RB]

theorem UD : @dO = @mX aC _ := by
  funext d a m b cmp
  unfold dO mX
  simp only [LC]

theorem LD : @eD = @tS aC _ := by
  funext d n cmp
  unfold eD tS fS vU
  unfold gF kW dX vI
  unfold fX vT gJ iJ
  unfold gG sH gE kT
  unfold dW sU
  rw [UD, UM]
  rfl

end Go.Abs
namespace Go.Abs
open Go
theorem CZ {l : List aC} {f : aC → Option Bool} {g : aC → Bool} (hl : l.length ≤ 1099511627776) (hf : ∀ x ∈ l, f x = some (g x)) : cG l f = some (l.any g) := by
  unfold cG eN eM
  obtain ⟨x, e, hx⟩ := BA hl hf l 0 rfl (Nat.zero_le _)
  have e' : lp (fun s => eH f l (l.length : Nat) s) 0 = some x := e
  rw [e']
  rcases hx with ⟨rfl, h⟩ | ⟨i, rfl, _, _, h, _⟩
  · simp [cZ, h]
  · simp [h]

def unE (e : aC) : Bool := ((!oN e.Row) || (decide ((1048576 : Int) < e.Net))) || (decide (e.Net < (-1048576 : Int)))

def CF (e : aC) : Bool := (decide (e.At < (-1 : Int))) || (decide ((1125899906842624 : Int) < e.At))

def RW (x y : aC) : Int := if iD x.Row y.Row ≠ 0 then iD x.Row y.Row else oK x.At y.At

abbrev okE (x : aC) : Prop := oN x.Row = true

abbrev leE (x y : aC) : Prop := iD x.Row y.Row < 0 ∨ (x.Row = y.Row ∧ x.At ≤ y.At)

theorem or_eq (a b : Int) : rO [a, b] = some (if a ≠ 0 then a else b) := by
  unfold rO sV
  have w1 : IntKind.i64.wrap (1 : Int) = 1 := by rw [iN] <;> omega
  have w2 : IntKind.i64.wrap (2 : Int) = 2 := by rw [iN] <;> omega
  have b0 : (fun s => fP 0 [a, b] (([a, b] : List Int).length : Nat) s) (0 : Int) = some (if a ≠ 0 then .inr (.inr a) else .inl 1) := by
    show fP _ _ _ _ = _
    unfold fP
    rw [bC ⟨by omega, by simp⟩]
    by_cases h : a = 0 <;> simp [h, w1]
  have b1 : (fun s => fP 0 [a, b] (([a, b] : List Int).length : Nat) s) (1 : Int) = some (if b ≠ 0 then .inr (.inr b) else .inl 2) := by
    show fP _ _ _ _ = _
    unfold fP
    rw [bC ⟨by omega, by simp⟩]
    by_cases h : b = 0 <;> simp [h, w2]
  have b2 : (fun s => fP 0 [a, b] (([a, b] : List Int).length : Nat) s) (2 : Int) = some (.inr (.inl ())) := by
    show fP _ _ _ _ = _
    unfold fP
    simp
  by_cases h : a = 0
  · rw [if_neg (by simp [h])] at b0
    rw [eT b0]
    by_cases h2 : b = 0
    · rw [if_neg (by simp [h2])] at b1
      rw [eT b1, cI b2]
      simp [pN, h, h2]
    · rw [if_pos h2] at b1
      rw [cI b1]
      simp [h]
  · rw [if_pos h] at b0
    rw [cI b0]
    simp [h]

theorem XO {x y : aC} (hx : okE x) (hy : okE y) : lH x y = some (RW x y) := by
  unfold lH RW
  rw [IP, hx, hy]
  simp only [Bool.and_self, if_true, Option.bind_some, IG, or_eq]

theorem XX (x y : aC) : RW x y < 0 ↔ ¬ leE y x := by
  unfold RW leE
  have ha := iE.anti x.Row y.Row
  have hb := iE.anti y.Row x.Row
  have he := iE.eq x.Row y.Row
  by_cases h : iD x.Row y.Row = 0
  · rw [if_neg (by simp [h])]
    have e := he.1 h
    have : ¬ iD y.Row x.Row < 0 := by rw [e]; exact nJ
    unfold oK
    constructor
    · intro h1 h2
      rcases h2 with h2 | ⟨_, h2⟩
      · exact this h2
      · split at h1
        · omega
        · split at h1 <;> omega
    · intro h1
      have : ¬ y.At ≤ x.At := fun h2 => h1 (.inr ⟨e.symm, h2⟩)
      rw [if_pos (by omega)]; omega
  · rw [if_pos h]
    have hne : y.Row ≠ x.Row := fun e => h (he.2 e.symm)
    constructor
    · intro h1 h2
      rcases h2 with h2 | ⟨h2, _⟩
      · have := hb.1 h2; omega
      · exact hne h2
    · intro h1
      have : ¬ iD y.Row x.Row < 0 := fun h2 => h1 (.inl h2)
      rw [hb] at this
      omega

theorem TJ (x y : aC) : leE x y ∨ leE y x := by
  unfold leE
  by_cases h : iD x.Row y.Row = 0
  · have e := (iE.eq _ _).1 h
    rcases Int.le_total x.At y.At with h1 | h1
    · exact .inl (.inr ⟨e, h1⟩)
    · exact .inr (.inr ⟨e.symm, h1⟩)
  · by_cases h1 : iD x.Row y.Row < 0
    · exact .inl (.inl h1)
    · exact .inr (.inl ((iE.anti _ _).2 (by omega)))

theorem SH {x y z : aC} (h1 : leE x y) (h2 : leE y z) : leE x z := by
  rcases h1 with h1 | ⟨e1, h1⟩ <;> rcases h2 with h2 | ⟨e2, h2⟩
  · exact .inl (iE.trans _ _ _ h1 h2)
  · exact .inl (e2 ▸ h1)
  · exact .inl (e1.symm ▸ h2)
  · exact .inr ⟨e1.trans e2, by omega⟩

theorem ZS : Cmp okE leE (fun y0 y1 => lH y0 y1) where
  ans x y hx hy := ⟨_, XO hx hy, XX x y⟩
  trans x y z _ _ _ h1 h2 := SH h1 h2
  total x y _ _ := TJ x y

theorem ZT {l : List aC} (hl : l.length ≤ 1099511627776) (ho : ∀ e ∈ l, okE e) : ∃ r, r.Perm l ∧ Srt leE r ∧ cL l (fun y0 y1 => lH y0 y1) = some r := by
  obtain ⟨r, r1, r2, r3⟩ := IL ZS (d := l) ho hl
  refine ⟨r, r1, r2, ?_⟩
  unfold cL
  rw [LD, r3]; rfl

theorem MM : ∀ {l : List aC} {r : List aF} {f : List aB}, Srt leE l → (∀ e ∈ l, e.Row = r ∨ iD r e.Row < 0) → qK (gA r f l) ∧ ∀ g ∈ gA r f l, g.1 = r ∨ iD r g.1 < 0
  | [], r, f, _, _ => by simp [gA]
  | e :: l, r, f, hs, hr => by
    have hs' := List.pairwise_cons.1 hs
    rw [PW]
    by_cases h : e.Row = r
    · rw [if_pos h]
      exact MM hs'.2 (fun x hx => hr x (by simp [hx]))
    · rw [if_neg h]
      have hlt : iD r e.Row < 0 := (hr e (by simp)).resolve_left h
      obtain ⟨h1, h2⟩ := MM (r := e.Row) (f := [jE e]) hs'.2 (fun x hx => by
        rcases hs'.1 x hx with h | ⟨h, _⟩
        · exact .inr h
        · exact .inl h.symm)
      have key : ∀ g ∈ gA e.Row [jE e] l, iD r g.1 < 0 := fun g hg => by
        rcases h2 g hg with h | h
        · rw [h]; exact hlt
        · exact iE.trans _ _ _ hlt h
      refine ⟨List.pairwise_cons.2 ⟨key, h1⟩, ?_⟩
      intro g hg
      rcases List.mem_cons.1 hg with rfl | hg
      · exact .inl rfl
      · exact .inr (key g hg)

theorem uU {l : List aC} (hs : Srt leE l) : qK (groups l) := by
  cases l with
  | nil => exact List.Pairwise.nil
  | cons e l =>
    have hs' := List.pairwise_cons.1 hs
    exact (MM hs'.2 (fun x hx => by
      rcases hs'.1 x hx with h | ⟨h, _⟩
      · exact .inr h
      · exact .inl h.symm)).1

abbrev CL (rs : List (List aF)) : Prop := rs.Pairwise fun a b => iD a b < 0

def xI (r : List aF) : List (List aF) → List (List aF)
  | [] => [r]
  | x :: xs => if iD x r < 0 then x :: xI r xs else if x = r then x :: xs else r :: x :: xs

def rowsOf (l : List aC) : List (List aF) := l.foldl (fun rs e => xI e.Row rs) []

theorem FI {r x : List aF} : ∀ {rs : List (List aF)}, x ∈ xI r rs ↔ x = r ∨ x ∈ rs
  | [] => by simp [xI]
  | y :: ys => by
    unfold xI
    split
    · simp only [List.mem_cons, FI (rs := ys)]
      constructor
      · rintro (h | h | h)
        · exact .inr (.inl h)
        · exact .inl h
        · exact .inr (.inr h)
      · rintro (h | h | h)
        · exact .inr (.inl h)
        · exact .inl h
        · exact .inr (.inr h)
    · split
      · rename_i h; subst h; simp
      · simp

theorem NF {r : List aF} : ∀ {rs : List (List aF)}, CL rs → CL (xI r rs)
  | [], _ => by simp [xI]
  | y :: ys, hs => by
    have hs' := List.pairwise_cons.1 hs
    unfold xI
    split
    · rename_i h
      refine List.pairwise_cons.2 ⟨fun z hz => ?_, NF hs'.2⟩
      rcases FI.1 hz with rfl | hz
      · exact h
      · exact hs'.1 z hz
    · rename_i h
      split
      · exact hs
      · rename_i hne
        have hlt : iD r y < 0 := by
          have h0 : iD y r ≠ 0 := fun e => hne ((iE.eq _ _).1 e)
          exact (iE.anti _ _).2 (by omega)
        refine List.pairwise_cons.2 ⟨fun z hz => ?_, hs⟩
        rcases List.mem_cons.1 hz with rfl | hz
        · exact hlt
        · exact iE.trans _ _ _ hlt (hs'.1 z hz)

theorem DC : ∀ (l : List aC) (rs : List (List aF)), CL rs → CL (l.foldl (fun rs e => xI e.Row rs) rs) ∧ ∀ x, x ∈ l.foldl (fun rs e => xI e.Row rs) rs ↔ x ∈ rs ∨ ∃ e ∈ l, e.Row = x
  | [], rs, hs => ⟨hs, by simp⟩
  | e :: l, rs, hs => by
    obtain ⟨h1, h2⟩ := DC l (xI e.Row rs) (NF hs)
    refine ⟨h1, fun x => ?_⟩
    simp only [List.foldl_cons]
    rw [h2 x, FI]
    simp only [List.mem_cons, exists_eq_or_imp]
    constructor
    · rintro ((h | h) | h)
      · exact .inr (.inl h.symm)
      · exact .inl h
      · exact .inr (.inr h)
    · rintro (h | h | h)
      · exact .inl (.inr h)
      · exact .inl (.inl h.symm)
      · exact .inr h

theorem rV (l : List aC) : CL (rowsOf l) := (DC l [] List.Pairwise.nil).1

theorem rT {l : List aC} {x : List aF} : x ∈ rowsOf l ↔ ∃ e ∈ l, e.Row = x := by
  have := (DC l [] List.Pairwise.nil).2 x
  simpa [rowsOf] using this

theorem AG : ∀ {a b : List (List aF)}, CL a → CL b → (∀ x, x ∈ a ↔ x ∈ b) → a = b
  | [], [], _, _, _ => rfl
  | [], y :: ys, _, _, h => absurd ((h y).2 (by simp)) (by simp)
  | x :: xs, [], _, _, h => absurd ((h x).1 (by simp)) (by simp)
  | x :: xs, y :: ys, ha, hb, h => by
    have ha' := List.pairwise_cons.1 ha
    have hb' := List.pairwise_cons.1 hb
    have e : x = y := by
      rcases List.mem_cons.1 ((h x).1 (by simp)) with h1 | h1
      · exact h1
      · rcases List.mem_cons.1 ((h y).2 (by simp)) with h2 | h2
        · exact h2.symm
        · exact absurd (iE.trans _ _ _ (hb'.1 x h1) (ha'.1 y h2)) nJ
    subst e
    rw [AG ha'.2 hb'.2 fun z => ?_]
    constructor
    · intro hz
      rcases List.mem_cons.1 ((h z).1 (by simp [hz])) with h1 | h1
      · subst h1; exact absurd (ha'.1 z hz) nJ
      · exact h1
    · intro hz
      rcases List.mem_cons.1 ((h z).2 (by simp [hz])) with h1 | h1
      · subst h1; exact absurd (hb'.1 z hz) nJ
      · exact h1

def pH (l : List aC) : List (List aF × List aB) := (rowsOf l).map fun r => (r, bN l r)

theorem ME (l : List aC) : qK (pH l) := by
  rw [qK, pH, List.pairwise_map]; exact rV l

theorem PD {l : List aC} {r : List aF} (h : ∀ e ∈ l, e.Row ≠ r) : bN l r = [] := by
  unfold bN
  rw [List.map_eq_nil_iff, List.filter_eq_nil_iff]
  intro e he
  simpa using h e he

theorem CV (l : List aC) (r : List aF) : look (pH l) r = bN l r := by
  rcases uC (pH l) r with ⟨h1, h2⟩ | ⟨g, hg, h1, h2⟩
  · rw [h1, PD]
    intro e he hr
    have : (r, bN l r) ∈ pH l := List.mem_map.2 ⟨r, rT.2 ⟨e, he, hr⟩, rfl⟩
    exact h2 _ this rfl
  · rw [h2]
    obtain ⟨q, _, rfl⟩ := List.mem_map.1 hg
    simp only at h1
    rw [h1]

theorem MR {a b : List aC} (h : a.Perm b) (r : List aF) : (bN a r).Perm (bN b r) := (h.filter _).map _

theorem OV {l l' : List aC} (hp : l'.Perm l) (hs : Srt leE l') : (groups l').map (·.1) = rowsOf l := by
  refine AG ?_ (rV l) fun x => ?_
  · rw [CL, List.pairwise_map]; exact uU hs
  · rw [rT]
    constructor
    · intro h
      obtain ⟨g, hg, rfl⟩ := List.mem_map.1 h
      obtain ⟨_, e, he, h1⟩ := AY hg
      exact ⟨e, hp.mem_iff.1 he, h1.symm⟩
    · rintro ⟨e, he, rfl⟩
      have he' : e ∈ flat (groups l') := by rw [sN]; exact hp.mem_iff.2 he
      obtain ⟨g, hg, h1⟩ := List.mem_flatMap.1 he'
      obtain ⟨j, _, rfl⟩ := List.mem_map.1 h1
      exact List.mem_map.2 ⟨g, hg, rfl⟩

theorem NL {l : List aB} (ht : ∀ j ∈ l, -2 < j.At) : Up (-2) (uO l) :=
  zS (by rw [List.map_map]; simpa [Function.comp_def] using CE ht)

theorem CS {l : List aB} (ht : ∀ j ∈ l, -2 < j.At) {t : Int} (h1 : -2 < t) (h2 : t < 1125899906842624) : val (uO l) t = val l t := by
  have h0 : val l (-2) = 0 := rK fun j hj => ht j hj
  have := CA (F := val l) (CE ht) (fun s t' _ hst hlt hn => xT hst fun j hj hc => hn j.At (EP.2 (Or.inr ⟨j, List.mem_filter.2 ⟨hj, by simp; omega⟩, rfl⟩)) hc) t (by omega) h2
  rw [h0] at this
  unfold uO
  rw [this]; omega

theorem RS {f g : List aB} (h : f.Perm g) (hf : f.any yJ = false) : uO f = uO g := by
  have hg : ∀ j ∈ g, -2 < j.At := fun j hj => (xF hf j (h.mem_iff.2 hj)).1
  exact NK (fun j hj => (xF hf j hj).1) (NL hg) fun t h1 h2 => by rw [CS hg h1 h2, OD h]

theorem EM {f g : List aB} (h : f.Perm g) (p : aB → Bool) : f.any p = g.any p := by
  cases h1 : g.any p
  · rw [List.any_eq_false] at h1 ⊢
    exact fun x hx => h1 x (h.mem_iff.1 hx)
  · obtain ⟨x, hx, hp⟩ := List.any_eq_true.1 h1
    exact List.any_eq_true.2 ⟨x, h.mem_iff.2 hx, hp⟩

theorem RU {f g : List aB} (h : f.Perm g) : jW f = jW g := by
  unfold jW
  rw [EM h uA, EM h yJ]
  split
  · rfl
  · split
    · rfl
    · rename_i h2
      rw [RS h (by rw [EM h yJ]; simpa using h2)]

theorem SO (l : List aB) : (jW l).1.length ≤ 1024 := by
  unfold jW
  split
  · simp
  · split
    · simp
    · exact ET _

theorem GK {by1 : List aB → List aB × Int} : ∀ {gs hs : List (List aF × List aB)} {out : List aC}, gs.map (fun g => (g.1, by1 g.2)) = hs.map (fun g => (g.1, by1 g.2)) → lP by1 gs out = lP by1 hs out
  | [], [], _, _ => rfl
  | [], _ :: _, _, h => by simp at h
  | _ :: _, [], _, h => by simp at h
  | g :: gs, k :: hs, out, h => by
    simp only [List.map_cons, List.cons.injEq, Prod.mk.injEq] at h
    obtain ⟨⟨h1, h2⟩, h3⟩ := h
    unfold lP
    rw [h1, h2]
    split
    · rfl
    · split
      · rfl
      · exact GK h3

theorem OZ {l l' : List aC} (hp : l'.Perm l) (hs : Srt leE l') : (groups l').map (fun g => (g.1, jW g.2)) = (pH l).map (fun g => (g.1, jW g.2)) := by
  have h1 : (groups l').map (fun g => (g.1, jW g.2)) = ((groups l').map (·.1)).map (fun r => (r, jW (bN l r))) := by
    rw [List.map_map]
    apply List.map_congr_left
    intro g hg
    have hj : g.2 = bN l' g.1 := by rw [← pJ (uU hs), xH (uU hs) hg]
    simp only [Function.comp]
    rw [hj, RU (MR hp g.1)]
  rw [h1, OV hp hs, pH, List.map_map]
  rfl

def iB (l : List aC) : List aC × Int := if l.any unE then ([], 2) else if l.any CF then ([], 13) else lP jW (pH l) []

theorem QD {l : List aC} (h : l.any unE = false) : ∀ e ∈ l, oN e.Row = true ∧ e.Net ≤ 1048576 ∧ -1048576 ≤ e.Net := by
  intro e he
  have := List.any_eq_false.1 h e he
  simp only [unE, Bool.or_eq_true, not_or, Bool.not_eq_true', decide_eq_true_eq, Bool.not_eq_false, Bool.not_eq_true] at this
  exact ⟨by simpa using this.1.1, by omega, by omega⟩

theorem VA {l : List aC} (hl : okL l) (hn : l.length ≤ 1099511627776) : sS l = some (iB l) := by
  unfold sS iB
  rw [CZ (g := unE) hn (fun x _ => by simp [pT, DN, unE])]
  simp only [Option.bind_some]
  cases h1 : l.any unE
  · rw [CZ (f := fun y0 => qA y0) (g := CF) hn (fun x _ => rfl)]
    simp only [cond_false, Option.bind_some, Bool.false_eq_true, if_false]
    cases h2 : l.any CF
    · simp only [cond_false, Bool.false_eq_true, if_false]
      have hc : dZ l = some l := by unfold dZ; exact bC ⟨by omega, by omega⟩
      obtain ⟨r, r1, r2, r3⟩ := ZT hn (fun e he => (QD h1 e he).1)
      rw [hc]
      simp only [Option.bind_some]
      rw [r3]
      simp only [Option.bind_some]
      have hr : okL r := ⟨by rw [r1.length_eq]; exact hl.1, fun e he => hl.2 e (r1.mem_iff.1 he)⟩
      rw [IF hr (by1 := jW) (fun g hg => ⟨by
        unfold pQ
        have hgl : g.2.length ≤ 1099511627776 := by
          have h3 : g.2 = bN r g.1 := by rw [← pJ (uU r2), xH (uU r2) hg]
          rw [h3, bN, List.length_map]
          exact Nat.le_trans (List.length_filter_le _ _) (by rw [r1.length_eq]; exact hn)
        rw [norm_eq hgl]; rfl, SO _, DF hr hg⟩)]
      simp only [Option.bind_some]
      rw [GK (OZ r1 r2)]
    · simp
  · simp

theorem SY : jW [] = ([], 0) := rfl

theorem AD {l : List aC} (h : (iB l).2 = 0) : l.any unE = false ∧ l.any CF = false ∧ (∀ g ∈ pH l, (jW g.2).2 = 0) ∧ (iB l).1 = flat (zN jW (pH l)) ∧ (iB l).1.length ≤ 4096 := by
  unfold iB at h ⊢
  cases h1 : l.any unE
  · rw [h1] at h
    simp only [Bool.false_eq_true, if_false] at h ⊢
    cases h2 : l.any CF
    · rw [h2] at h
      simp only [Bool.false_eq_true, if_false] at h ⊢
      obtain ⟨a, b, c⟩ := HV (by simp) h
      exact ⟨trivial, trivial, a, by simpa using b, c⟩
    · rw [h2] at h; simp at h
  · rw [h1] at h; simp at h

theorem RL {l : List aC} (h : (iB l).2 = 0) (r : List aF) : look (groups (iB l).1) r = (jW (bN l r)).1 := by
  obtain ⟨_, _, _, h4, _⟩ := AD h
  rw [h4, JR (zV (ME l)), DA (by rw [SY]), CV]

theorem FF {f : List aB} (h : (jW f).2 = 0) : f.any uA = false ∧ f.any yJ = false ∧ eB (uO f) = true ∧ jW f = (uO f, 0) := by
  unfold jW at h ⊢
  cases h1 : f.any uA
  · rw [h1] at h
    simp only [Bool.false_eq_true, if_false] at h ⊢
    cases h2 : f.any yJ
    · rw [h2] at h
      simp only [Bool.false_eq_true, if_false] at h ⊢
      unfold told at h ⊢
      cases h3 : eB (uO f)
      · rw [h3] at h; simp at h
      · simp
    · rw [h2] at h; simp at h
  · rw [h1] at h; simp at h

theorem JL {l : List aC} (h : (iB l).2 = 0) (r : List aF) : (jW (bN l r)).2 = 0 := by
  obtain ⟨_, _, h3, _, _⟩ := AD h
  rcases uC (pH l) r with ⟨e, _⟩ | ⟨g, hg, _, e⟩
  · rw [CV] at e; rw [e]; rfl
  · rw [CV] at e; rw [e]; exact h3 g hg

theorem IM {l : List aC} (h : (iB l).2 = 0) : kQ (iB l).1 = true := by
  obtain ⟨h1, _, h3, h4, h5⟩ := AD h
  rw [h4] at h5 ⊢
  refine IZ (zV (ME l)) (fun g hg => ?_) h5
  obtain ⟨q, hq, rfl⟩ := List.mem_map.1 hg
  have h6 := FF (h3 q hq)
  obtain ⟨r, hr, rfl⟩ := List.mem_map.1 hq
  obtain ⟨e, he, rfl⟩ := rT.1 hr
  exact ⟨(QD h1 e he).1, by rw [h6.2.2.2]; exact h6.2.2.1⟩

theorem RO {l : List aC} (h : (iB l).2 ≠ 0) : (iB l).1 = [] := by
  unfold iB at h ⊢
  split
  · rfl
  · rename_i h1
    rw [if_neg h1] at h
    split
    · rfl
    · rename_i h2
      rw [if_neg h2] at h
      exact FE h

end Go.Abs
namespace Go.Abs
open Go
def vL : aF := ⟨1, 1, ByteArray.empty⟩

theorem YO {l : List aC} (h : l.length ≤ 4096) (hr : ∀ e ∈ l, e.Row.length ≤ 8) : okL l := ⟨by omega, fun e he => by have := hr e he; omega⟩

end Go.Abs
namespace Go.Abs
open Go
theorem vG : okL [] := ⟨by simp, by simp⟩

theorem LY {gs : List (List aF × List aB)} (h : ∀ g ∈ gs, g.1.length ≤ 4398046510976) (hl : (flat gs).length ≤ 4096) : okL (flat gs) := by
  refine ⟨by omega, fun e he => ?_⟩
  obtain ⟨g, hg, h1⟩ := List.mem_flatMap.1 he
  obtain ⟨j, _, rfl⟩ := List.mem_map.1 h1
  exact h g hg

theorem NM {by1 : List aB → List aB × Int} {l : List aC} (hl : okL l) : okL (sD by1 l).1 := by
  by_cases h : (sD by1 l).2 = 0
  · obtain ⟨_, _, h3, h4⟩ := tO h
    rw [h3] at h4 ⊢
    refine LY (fun g hg => ?_) h4
    obtain ⟨q, hq, rfl⟩ := List.mem_map.1 hg
    have := DF hl hq
    exact this
  · unfold sD at h ⊢
    split
    · rename_i hm
      rw [if_pos hm] at h
      rw [FE h]; exact vG
    · exact vG

theorem SN {l : List aC} (hl : okL l) : okL (iB l).1 := by
  by_cases h : (iB l).2 = 0
  · obtain ⟨_, _, _, h4, h5⟩ := AD h
    rw [h4] at h5 ⊢
    refine LY (fun g hg => ?_) h5
    obtain ⟨q, hq, rfl⟩ := List.mem_map.1 hg
    obtain ⟨r, hr, rfl⟩ := List.mem_map.1 hq
    obtain ⟨e, he, rfl⟩ := rT.1 hr
    exact hl.2 e he
  · rw [RO h]; exact vG

def jK (l : List aC) (t : Int) : List aC × Int := sD (fun f => ahead f t) l

def pM (l : List aC) (t : Int) : List aC × Int := sD (fun f => rest f t) l

theorem GN {l : List aC} (hl : okL l) (t : Int) : okL (jK l t).1 := NM hl

theorem SP {l : List aC} (hl : okL l) (t : Int) : okL (pM l t).1 := NM hl

theorem yC {l : List aC} (hl : okL l) (t : Int) : mC l t = some (jK l t) := by
  unfold mC jK
  rw [all_eq hl (by0 := fun y0 => nC y0 t) (by1 := fun f => ahead f t) (fun f => by unfold nC; rw [VO]; rfl) (fun f => UQ f t)]
  rfl

theorem VG {l : List aC} (hl : okL l) (t : Int) : sL l t = some (pM l t) := by
  unfold sL pM
  rw [all_eq hl (by0 := fun y0 => nX y0 t) (by1 := fun f => rest f t) (fun f => by unfold nX; rw [XP]; rfl) (fun f => WI f t)]
  rfl

theorem IS {t : Int} (ht0 : 0 ≤ t) : ahead [] t = ([], 0) := by
  unfold ahead
  rw [if_pos DI]
  split
  · rfl
  · rfl

theorem LF {t : Int} : rest [] t = ([], 0) := by
  unfold rest
  rw [if_pos DI]
  split
  · rfl
  · split <;> rfl

end Go.Abs
namespace Go.Abs
open Go
theorem UA {l : List aC} (m : ∀ a ∈ l, oO a) (y : List.length l * 40 ≤ 140737488351232) : okL l :=
  ⟨by omega, fun e he => by have := (m e he).1.2; omega⟩

end Go.Abs
namespace Go.Abs
open Go
theorem AS {l : List aC} (hm : kQ l = true) {e : aC} (he : e ∈ l) : oN e.Row = true ∧ -2 < e.At ∧ e.At < 1125899906842624 ∧ e.Net ≠ 0 ∧ e.Net ≤ 1048576 ∧ -1048576 ≤ e.Net := by
  obtain ⟨_, h2, _⟩ := nY hm
  have he' : e ∈ flat (groups l) := by rw [sN]; exact he
  obtain ⟨g, hg, h1⟩ := List.mem_flatMap.1 he'
  obtain ⟨j, hj, rfl⟩ := List.mem_map.1 h1
  obtain ⟨a, b⟩ := h2 g hg
  exact ⟨a, (iP.1 b).2.above j hj⟩

theorem kY {l : List aC} (hm : kQ l = true) (r : List aF) : eB (bN l r) = true := by
  rw [← pJ (nY hm).2.2]; exact SK hm r

end Go.Abs
namespace Go.Abs
open Go
theorem QB {c : Int} : ∀ {l : List Int} {m : Int}, c ≤ l.foldl mn m ↔ c ≤ m ∧ ∀ x ∈ l, c ≤ x
  | [], m => by simp
  | a :: l, m => by
    rw [List.foldl_cons, QB]
    unfold mn
    constructor
    · rintro ⟨h1, h2⟩
      have h3 : c ≤ m ∧ c ≤ a := by split at h1 <;> omega
      refine ⟨h3.1, fun x hx => ?_⟩
      rcases List.mem_cons.1 hx with rfl | hx
      · exact h3.2
      · exact h2 x hx
    · rintro ⟨h1, h2⟩
      have := h2 a (by simp)
      exact ⟨by split <;> omega, fun x hx => h2 x (by simp [hx])⟩

theorem JD {t : Int} : ∀ {f : List aB} {l v : Int}, mH l f → v + val f t = v ∨ v + val f t ∈ parts v f
  | [], l, v, _ => .inl (by simp [val])
  | j :: r, l, v, h => by
    unfold parts
    rw [cC]
    by_cases e : j.At ≤ t
    · rw [if_pos e]
      right
      rcases JD (t := t) (v := v + j.Net) h.2 with h1 | h1
      · rw [show v + (j.Net + val r t) = v + j.Net by omega]; simp
      · rw [show v + (j.Net + val r t) = v + j.Net + val r t by omega]; exact List.mem_cons_of_mem _ h1
    · left
      rw [if_neg e, h.2.uZ (by omega)]; omega

theorem JK {f : List aB} (hf : eB f = true) : 0 ≤ zB f ↔ ∀ t, 0 ≤ val f t := by
  have hr := (iP.1 hf).2
  unfold zB
  rw [QB]
  constructor
  · rintro ⟨_, h2⟩ t
    rcases JD (t := t) (v := 0) hr with h | h
    · omega
    · rw [parts_eq hr] at h
      obtain ⟨j, hj, h⟩ := List.mem_map.1 h
      have := h2 _ (List.mem_map.2 ⟨j, hj, rfl⟩)
      omega
  · intro h
    refine ⟨h _, fun x hx => ?_⟩
    obtain ⟨j, _, rfl⟩ := List.mem_map.1 hx
    exact h _

theorem uL {l : List aC} : rE l = true ↔ kQ l = true ∧ ∀ r t, 0 ≤ val (bN l r) t := by
  constructor
  · intro h
    unfold rE at h
    rw [Bool.and_eq_true, tQ] at h
    obtain ⟨h1, h2, h3, _⟩ := h
    have hm : kQ l = true := by
      unfold kQ
      rw [Bool.and_eq_true]
      exact ⟨h1, tQ.2 ⟨fun g hg => ⟨(h2 g hg).1, by have := (h2 g hg).2; unfold IC at this; rw [Bool.and_eq_true] at this; exact this.1⟩, h3, fun q hq => by cases hq⟩⟩
    refine ⟨hm, fun r => ?_⟩
    rw [← pJ h3]
    rcases uC (groups l) r with ⟨e, _⟩ | ⟨g, hg, _, e⟩
    · rw [e]; intro t; simp [val]
    · rw [e]
      have := (h2 g hg).2
      unfold IC at this
      rw [Bool.and_eq_true, decide_eq_true_eq] at this
      exact (JK this.1).1 this.2
  · rintro ⟨hm, h⟩
    obtain ⟨h1, h2, h3⟩ := nY hm
    unfold rE
    rw [Bool.and_eq_true]
    refine ⟨by simpa using h1, tQ.2 ⟨fun g hg => ⟨(h2 g hg).1, ?_⟩, h3, fun q hq => by cases hq⟩⟩
    unfold IC
    rw [Bool.and_eq_true, decide_eq_true_eq]
    refine ⟨(h2 g hg).2, (JK (h2 g hg).2).2 ?_⟩
    have : g.2 = bN l g.1 := by rw [← pJ h3, xH h3 hg]
    rw [this]; exact h g.1

theorem JI {f : List aB} (hu : Up (-2) f) (h : ∀ t, -2 < t → t < 1125899906842624 → 0 ≤ val f t) : ∀ t, 0 ≤ val f t := by
  intro t
  by_cases h1 : -2 < t
  · by_cases h2 : t < 1125899906842624
    · exact h t h1 h2
    · have := xT (s := 1125899906842623) (t := t) (by omega) (f := f) (fun j hj => by have := (hu.above j hj); omega)
      rw [← this]; exact h _ (by omega) (by omega)
  · rw [hu.uZ (by omega)]; omega

theorem DW {l : List aC} (h : (iB l).2 = 0) (r : List aF) : bN (iB l).1 r = uO (bN l r) := by
  rw [← pJ (nY (IM h)).2.2, RL h, (FF (JL h r)).2.2.2]

theorem wZ {l : List aC} (h : (iB l).2 = 0) (r : List aF) : ∀ j ∈ bN l r, -2 < j.At :=
  fun j hj => (xF (FF (JL h r)).2.1 j hj).1

theorem SQ {l : List aC} (h : (iB l).2 = 0) (r : List aF) {t : Int} (h1 : -2 < t) (h2 : t < 1125899906842624) : val (bN (iB l).1 r) t = val (bN l r) t := by
  rw [DW h, CS (wZ h r) h1 h2]

theorem OJ {l : List aC} (h : (iB l).2 = 0) (hv : ∀ r t, -2 < t → t < 1125899906842624 → 0 ≤ val (bN l r) t) : rE (iB l).1 = true := by
  refine uL.2 ⟨IM h, fun r => ?_⟩
  rw [DW h]
  refine JI (NL (wZ h r)) fun t h1 h2 => ?_
  rw [CS (wZ h r) h1 h2]; exact hv r t h1 h2

end Go.Abs
namespace Go.Abs
open Go
def AF (d t : Int) : Int := if 1125899906842624 < t + d then 1125899906842624 else t + d

def nM (d frm : Int) (l : List aC) : List aC := l.flatMap fun x => if 0 < x.Net ∧ frm ≤ x.At then [x, ⟨x.Row, AF d x.At, -x.Net⟩] else []

def oP (d frm : Int) (f : List aB) : List aB := f.flatMap fun x => if 0 < x.Net ∧ frm ≤ x.At then [x, ⟨AF d x.At, -x.Net⟩] else []

theorem zW (d frm : Int) (x : aC) (l : List aC) : nM d frm (x :: l) = (if 0 < x.Net ∧ frm ≤ x.At then [x, ⟨x.Row, AF d x.At, -x.Net⟩] else []) ++ nM d frm l := by simp [nM]

theorem zP (d frm : Int) (x : aB) (l : List aB) : oP d frm (x :: l) = (if 0 < x.Net ∧ frm ≤ x.At then [x, ⟨AF d x.At, -x.Net⟩] else []) ++ oP d frm l := by simp [oP]

theorem CP (d frm : Int) (f g : List aB) : oP d frm (f ++ g) = oP d frm f ++ oP d frm g := by simp [oP]

theorem oU (d frm : Int) (r : List aF) : ∀ l : List aC, bN (nM d frm l) r = oP d frm (bN l r)
  | [] => rfl
  | x :: l => by
    rw [zW, vF, oU d frm r l]
    have hx : bN (x :: l) r = (if x.Row = r then [jE x] else []) ++ bN l r := by
      by_cases e : x.Row = r <;> simp [bN, e]
    rw [hx]
    by_cases e : x.Row = r
    · rw [if_pos e, CP]
      congr 1
      by_cases h : 0 < x.Net ∧ frm ≤ x.At
      · rw [if_pos h]
        simp [bN, e, oP, jE, h]
      · rw [if_neg h]
        simp [bN, oP, jE, h]
    · rw [if_neg e]
      by_cases h : 0 < x.Net ∧ frm ≤ x.At
      · rw [if_pos h]; simp [bN, e]
      · rw [if_neg h]; simp [bN]

def had (d frm t : Int) (f : List aB) : Int := (f.map fun j => if 0 < j.Net ∧ frm ≤ j.At ∧ j.At ≤ t ∧ t - d < j.At then j.Net else 0).sum

theorem xQ (d frm t : Int) (j : aB) (f : List aB) : had d frm t (j :: f) = (if 0 < j.Net ∧ frm ≤ j.At ∧ j.At ≤ t ∧ t - d < j.At then j.Net else 0) + had d frm t f := by simp [had]

theorem FT (d frm t : Int) : ∀ f : List aB, 0 ≤ had d frm t f
  | [] => by simp [had]
  | j :: f => by
    rw [xQ]
    have := FT d frm t f
    split <;> omega

theorem EO {d frm t : Int} (hd : 1 ≤ d) (ht : t < 1125899906842624) : ∀ f : List aB, val (oP d frm f) t = had d frm t f
  | [] => rfl
  | j :: f => by
    rw [zP, oH, xQ, EO hd ht f]
    congr 1
    by_cases h : 0 < j.Net ∧ frm ≤ j.At
    · rw [if_pos h, cC, cC, nF]
      have he : AF d j.At ≤ t ↔ j.At + d ≤ t := by unfold AF; split <;> omega
      by_cases h1 : j.At ≤ t
      · by_cases h2 : j.At + d ≤ t
        · rw [if_pos h1, if_pos (he.2 h2), if_neg (by omega)]; simp only; omega
        · rw [if_pos h1, if_neg (fun h => h2 (he.1 h)), if_pos (by omega)]; omega
      · rw [if_neg h1, if_neg (fun h => by have := he.1 h; omega), if_neg (by omega)]; omega
    · rw [if_neg h, if_neg (by omega), nF]

def gX (l : List aC) (d frm : Int) : List aC × Int :=
  if (!kQ l || decide (d < 1)) || decide (1099511627776 < d) then ([], 2) else if !rE l then ([], 20) else if decide (frm < 0) || decide (1125899906842624 < frm) then ([], 13) else iB (nM d frm l)

theorem CQ (d frm : Int) : ∀ l : List aC, (nM d frm l).length ≤ 2 * l.length
  | [] => by simp [nM]
  | x :: l => by
    rw [zW, List.length_append, List.length_cons]
    have := CQ d frm l
    split <;> simp <;> omega

theorem CW {d frm : Int} {l : List aC} {e : aC} (h : e ∈ nM d frm l) : ∃ x ∈ l, 0 < x.Net ∧ frm ≤ x.At ∧ (e = x ∨ e = ⟨x.Row, AF d x.At, -x.Net⟩) := by
  obtain ⟨x, hx, h1⟩ := List.mem_flatMap.1 h
  split at h1
  · rename_i h2
    refine ⟨x, hx, h2.1, h2.2, ?_⟩
    simpa using h1
  · simp at h1

theorem II {d frm : Int} {l : List aC} (hl : okL l) (h : l.length ≤ 4096) : okL (nM d frm l) :=
  ⟨by have := CQ d frm l; omega, fun e he => by
    obtain ⟨x, hx, _, _, h1⟩ := CW he
    have := hl.2 x hx
    rcases h1 with rfl | rfl <;> exact this⟩

theorem zM {l : List aC} (hl : okL l) (d frm : Int) : kV l d frm = some (gX l d frm) := by
  unfold kV gX
  rw [QA hl]
  simp only [Option.bind_some]
  cases h1 : (!kQ l || decide (d < 1)) || decide (1099511627776 < d)
  · simp only [Bool.or_eq_false_iff, Bool.not_eq_false', decide_eq_false_iff_not] at h1
    simp only [cond_false, TQ hl, Option.bind_some, Bool.false_eq_true, if_false]
    cases h2 : rE l
    · simp
    · simp only [Bool.not_true, cond_false, Bool.false_eq_true, if_false]
      cases h3 : decide (frm < 0) || decide (1125899906842624 < frm)
      · simp only [Bool.or_eq_false_iff, decide_eq_false_iff_not] at h3
        simp only [cond_false, Bool.false_eq_true, if_false]
        have hn := (nY h1.1.1).1
        rw [bC ⟨by omega, by omega, by omega⟩]
        unfold uI
        rw [HM (l := l) (body := fun s : List aC × Int => mE frm d l (l.length : Nat) s.1 s.2) (fun o i => (o, i)) (fun o t => o ++ nM d frm t) (fun o t => o.length + 2 * t.length ≤ 8192 ∧ ∀ e ∈ t, e ∈ l) [] ?_ ?_ ⟨by simp; omega, fun e he => he⟩]
        · simp only [Option.bind_some, qR, List.nil_append]
          have := CQ d frm l
          rw [VA (II hl hn) (by omega)]; rfl
        · rintro i x t o hi ⟨g1, g2⟩
          left
          obtain ⟨d1, d2, d3, d4⟩ := idx hi (by omega)
          have hx := AS h1.1.1 (g2 x (by simp))
          simp only [List.length_cons] at g1
          have w1 : IntKind.i64.wrap (x.At + d) = x.At + d := iN (by omega) (by omega)
          have w2 : IntKind.i64.wrap (0 - x.Net) = -x.Net := by rw [iN (by omega) (by omega)]; omega
          have hb : mE frm d l (l.length : Nat) o (i : Int) = some (.inl (o ++ (if 0 < x.Net ∧ frm ≤ x.At then [x, ⟨x.Row, AF d x.At, -x.Net⟩] else []), ((i + 1 : Nat) : Int))) := by
            simp only [mE, qV, d1, cond_true, bC d2, d3, d4, sW, w1, w2, Option.bind_some]
            by_cases c1 : 0 < x.Net
            · by_cases c2 : frm ≤ x.At
              · simp only [c1, c2, decide_true, Bool.and_self, cond_true, and_self, if_true]
                rw [bC (by simp only [List.length_cons, List.length_nil]; omega)]; rfl
              · simp [c1, c2]
            · simp [c1]
          refine ⟨_, hb, ⟨by rw [List.length_append]; split <;> simp <;> omega, fun e he => g2 e (by simp [he])⟩, ?_⟩
          rw [zW, List.append_assoc]
        · rintro o _
          show mE _ _ _ _ _ _ = _
          simp only [mE, lZ, cond_false]
          simp [nM]
      · simp
  · simp

theorem SB {a b : List aC} (h : ∀ r, bN a r = bN b r) : pH a = pH b := by
  have hr : rowsOf a = rowsOf b := AG (rV a) (rV b) fun x => by
    have key : ∀ c : List aC, x ∈ rowsOf c ↔ bN c x ≠ [] := fun c => by
      rw [rT]
      constructor
      · rintro ⟨e, he, rfl⟩ hn
        have : jE e ∈ bN c e.Row := List.mem_map.2 ⟨e, List.mem_filter.2 ⟨he, by simp⟩, rfl⟩
        rw [hn] at this; simp at this
      · intro hn
        obtain ⟨j, hj⟩ := List.exists_mem_of_ne_nil _ hn
        obtain ⟨e, he, rfl⟩ := List.mem_map.1 hj
        have := List.mem_filter.1 he
        exact ⟨e, this.1, by simpa using this.2⟩
    rw [key, key, h x]
  unfold pH
  rw [hr]
  exact List.map_congr_left fun r _ => by rw [h r]

theorem BW {c : List aC} {x : List aF} : x ∈ rowsOf c ↔ bN c x ≠ [] := by
  rw [rT]
  constructor
  · rintro ⟨e, he, rfl⟩ hn
    have : jE e ∈ bN c e.Row := List.mem_map.2 ⟨e, List.mem_filter.2 ⟨he, by simp⟩, rfl⟩
    rw [hn] at this; simp at this
  · intro hn
    obtain ⟨j, hj⟩ := List.exists_mem_of_ne_nil _ hn
    obtain ⟨e, he, rfl⟩ := List.mem_map.1 hj
    have := List.mem_filter.1 he
    exact ⟨e, this.1, by simpa using this.2⟩

theorem BV {by1 : List aB → List aB × Int} {p : List aF × List aB → Bool} : ∀ {gs : List (List aF × List aB)} {out : List aC}, out.length ≤ 4096 → (∀ g ∈ gs, p g = false → by1 g.2 = ([], 0)) → lP by1 gs out = lP by1 (gs.filter p) out
  | [], _, _, _ => rfl
  | g :: gs, out, h, hp => by
    have st : ∀ (ks : List (List aF × List aB)), lP by1 (g :: ks) out = if (by1 g.2).2 ≠ 0 then ([], (by1 g.2).2) else if 4096 < (out ++ fR g.1 (by1 g.2).1).length then ([], 7) else lP by1 ks (out ++ fR g.1 (by1 g.2).1) := fun _ => rfl
    cases e : p g
    · rw [List.filter_cons_of_neg (by simp [e]), st, hp g (by simp) e]
      simp only [ne_eq, not_true_eq_false, if_false, fR, List.map_nil, List.append_nil]
      rw [if_neg (by omega)]
      exact BV (gs := gs) h fun q hq => hp q (by simp [hq])
    · rw [List.filter_cons_of_pos e, st, st]
      split
      · rfl
      · split
        · rfl
        · exact BV (gs := gs) (by omega) fun q hq => hp q (by simp [hq])

theorem LG {by1 : List aB → List aB × Int} {h : List aB → List aB} : ∀ {gs : List (List aF × List aB)} {out : List aC}, lP by1 (gs.map fun g => (g.1, h g.2)) out = lP (fun f => by1 (h f)) gs out
  | [], _ => rfl
  | g :: gs, out => by
    simp only [List.map_cons]
    unfold lP
    split
    · rfl
    · split
      · rfl
      · exact LG

theorem SW {a l : List aC} {h : List aB → List aB} (h0 : h [] = []) (hj : ∀ r, bN a r = h (bN l r)) : lP jW (pH a) [] = lP (fun f => jW (h f)) (pH l) [] := by
  have e1 := BV (by1 := jW) (p := fun g => !g.2.isEmpty) (gs := (pH l).map fun g => (g.1, h g.2)) (out := []) (by simp) (fun g _ hp => by
    have : g.2 = [] := by simpa using hp
    rw [this]; rfl)
  rw [← LG (by1 := jW) (h := h), e1]
  congr 1
  have hr : rowsOf a = (rowsOf l).filter fun r => !(h (bN l r)).isEmpty := by
    refine AG (rV a) ((rV l).filter _) fun x => ?_
    rw [List.mem_filter, BW, BW, hj x]
    constructor
    · intro hn
      refine ⟨fun e => hn (by rw [e, h0]), by simpa using hn⟩
    · rintro ⟨_, h2⟩
      simpa using h2
  unfold pH
  rw [hr, List.map_map, List.filter_map]
  exact List.map_congr_left fun r _ => by simp only [Function.comp, hj r]

theorem FC {d frm : Int} {l : List aC} (hm : kQ l = true) (h0 : 0 ≤ frm) (hd : 1 ≤ d) : (nM d frm l).any unE = false ∧ (nM d frm l).any CF = false := by
  refine ⟨List.any_eq_false.2 fun e he => ?_, List.any_eq_false.2 fun e he => ?_⟩
  · obtain ⟨x, hx, h1, h2, h3⟩ := CW he
    have := AS hm hx
    rcases h3 with rfl | rfl
    · simp only [unE, this.1, Bool.not_true, Bool.false_or, Bool.or_eq_true, decide_eq_true_eq]; omega
    · simp only [unE, this.1, Bool.not_true, Bool.false_or, Bool.or_eq_true, decide_eq_true_eq]; omega
  · obtain ⟨x, hx, h1, h2, h3⟩ := CW he
    have := AS hm hx
    rcases h3 with rfl | rfl
    · simp only [CF, Bool.or_eq_true, decide_eq_true_eq]; omega
    · simp only [CF, Bool.or_eq_true, decide_eq_true_eq]
      unfold AF; split <;> omega

theorem KY {l : List aC} {d frm : Int} (hm : kQ l = true) (ht : rE l = true) (h1 : 1 ≤ d) (h2 : d ≤ 1099511627776) (h3 : 0 ≤ frm) (h4 : frm ≤ 1125899906842624) :
    gX l d frm = iB (nM d frm l) ∧ iB (nM d frm l) = lP (fun f => jW (oP d frm f)) (pH l) [] := by
  constructor
  · unfold gX
    have c1 : ((!kQ l || decide (d < 1)) || decide (1099511627776 < d)) = false := by
      simp only [hm, Bool.not_true, Bool.false_or, Bool.or_eq_false_iff, decide_eq_false_iff_not]; omega
    have c2 : (decide (frm < 0) || decide (1125899906842624 < frm)) = false := by
      simp only [Bool.or_eq_false_iff, decide_eq_false_iff_not]; omega
    rw [c1, c2, ht]
    simp only [Bool.false_eq_true, if_false, Bool.not_true]
  · obtain ⟨u1, u2⟩ := FC (d := d) hm h3 h1
    unfold iB
    rw [u1, u2]
    simp only [Bool.false_eq_true, if_false]
    exact SW rfl fun r => oU d frm r l

end Go.Abs
namespace Go.Abs
open Go
theorem CT {l : List aC} (hl : okL l) (d frm : Int) : okL (gX l d frm).1 := by
  unfold gX
  split
  · exact vG
  · rename_i h
    split
    · exact vG
    · split
      · exact vG
      · simp only [Bool.or_eq_true, Bool.not_eq_true', decide_eq_true_eq, not_or, Bool.not_eq_false] at h
        exact SN (II hl (nY h.1.1).1)

theorem EY {l : List aC} {d frm : Int} (h : (gX l d frm).2 = 0) : kQ l = true ∧ rE l = true ∧ 1 ≤ d ∧ d ≤ 1099511627776 ∧ 0 ≤ frm ∧ frm ≤ 1125899906842624 ∧ gX l d frm = iB (nM d frm l) := by
  unfold gX at h ⊢
  split at h
  · simp at h
  · rename_i c1
    rw [if_neg c1]
    split at h
    · simp at h
    · rename_i c2
      rw [if_neg c2]
      split at h
      · simp at h
      · rename_i c3
        rw [if_neg c3]
        simp only [Bool.or_eq_true, Bool.not_eq_true', decide_eq_true_eq, not_or, Bool.not_eq_false] at c1 c2 c3
        exact ⟨c1.1.1, c2, by omega, by omega, by omega, by omega, rfl⟩

theorem IQ {l : List aC} {d frm t : Int} (h : (gX l d frm).2 = 0) (r : List aF) (h1 : -2 < t) (h2 : t < 1125899906842624) : val (bN (gX l d frm).1 r) t = had d frm t (bN l r) := by
  obtain ⟨_, _, g1, _, _, _, g2⟩ := EY h
  rw [g2] at h ⊢
  rw [SQ h r h1 h2, oU, EO g1 h2]

theorem EB {l : List aC} {d frm : Int} (h : (gX l d frm).2 = 0) : rE (gX l d frm).1 = true := by
  obtain ⟨_, _, g1, _, _, _, g2⟩ := EY h
  rw [g2] at h ⊢
  refine OJ h fun r t _ h2 => ?_
  rw [oU, EO g1 h2]; exact FT ..

theorem UY : gX [⟨[vL], 2, 1⟩, ⟨[vL], 5, 1⟩, ⟨[vL], 6, -1⟩, ⟨[vL], 9, -1⟩] 4 0 = ([⟨[vL], 2, 1⟩, ⟨[vL], 5, 1⟩, ⟨[vL], 6, -1⟩, ⟨[vL], 9, -1⟩], 0) := by decide +kernel

theorem WC : gX [] 0 0 = ([], 2) := by decide +kernel

theorem tT : mJ = some true := by
  unfold mJ
  have k1 : okL [⟨[vL], 2, 1⟩, ⟨[vL], 5, 1⟩, ⟨[vL], 6, -1⟩, ⟨[vL], 9, -1⟩] := YO (by simp) (by simp)
  have h1 := (zM k1 4 0).trans (congrArg some UY)
  have h2 := (zM vG 0 0).trans (congrArg some WC)
  unfold vL at h1
  rw [h1, h2]
  simp [bC]

end Go.Abs
namespace Go.Abs
open Go
theorem FB {d frm t s : Int} (hs : s < t) : ∀ {f : List aB} {l : Int}, mH l f → had d frm s f = had d frm s (cW t f)
  | [], _, _ => rfl
  | j :: r, l, h => by
    unfold cW
    split
    · rename_i hj
      have : ∀ k ∈ j :: r, t ≤ k.At := fun k hk => by
        rcases List.mem_cons.1 hk with rfl | hk
        · exact hj
        · have := (h.2.above k hk).1; omega
      have z : ∀ g : List aB, (∀ k ∈ g, t ≤ k.At) → had d frm s g = 0 := by
        intro g
        induction g with
        | nil => intro _; rfl
        | cons k g ih =>
          intro hg
          have := hg k (by simp)
          rw [xQ, if_neg (by omega), ih fun q hq => hg q (by simp [hq])]; rfl
      rw [z _ this]; rfl
    · rw [xQ, xQ, FB hs h.2]

theorem GI {t : Int} (f : List aB) : cW t (vW t f) = cW t f := by
  have key : ∀ (a b : List aB), (∀ j ∈ a, j.At < t) → (∀ j ∈ b, t ≤ j.At) → cW t (a ++ b) = a := by
    intro a
    induction a with
    | nil =>
      intro b _ hb
      cases b with
      | nil => rfl
      | cons k b => simp only [List.nil_append, cW]; rw [if_pos (hb k (by simp))]
    | cons k a ih =>
      intro b ha hb
      have := ha k (by simp)
      simp only [List.cons_append, cW]
      rw [if_neg (by omega), ih b (fun j hj => ha j (by simp [hj])) hb]
  unfold vW
  refine key _ _ (fun j hj => zK j hj) fun j hj => ?_
  split at hj
  · simp at hj
  · simp only [List.mem_singleton] at hj
    subst hj
    exact Int.le_refl _

theorem VJ {f : List aB} {t : Int} (hf : eB f = true) (ht : t < 1125899906842624) (h : (ahead f t).2 = 0) : (ahead f t).1 = vW t f := by
  unfold ahead at h ⊢
  rw [if_pos hf, if_neg (by omega)] at h ⊢
  unfold told at h ⊢
  split at h
  · rename_i c; rw [if_pos c]
  · simp at h

theorem YF {f : List aB} {t : Int} (hf : eB f = true) (h0 : 0 ≤ t) (ht : t < 1125899906842624) (h : (rest f t).2 = 0) : (rest f t).1 = vQ t f := by
  unfold rest at h ⊢
  rw [if_pos hf, if_neg (by omega), if_neg (by omega)] at h ⊢
  unfold told at h ⊢
  split at h
  · rename_i c; rw [if_pos c]
  · simp at h

theorem mL {l : List aC} (h : kQ l = true) (r : List aF) : look (groups l) r = bN l r := pJ (nY h).2.2 r

theorem MK {by1 : List aB → List aB × Int} {l : List aC} (hb : ∀ f, eB f = true → (by1 f).2 = 0 → eB (by1 f).1 = true) (h : (sD by1 l).2 = 0) : kQ (sD by1 l).1 = true := by
  obtain ⟨h1, h2, h3, h4⟩ := tO h
  obtain ⟨_, g1, g2⟩ := nY h1
  rw [h3] at h4 ⊢
  refine IZ (zV g2) (fun g hg => ?_) h4
  obtain ⟨q, hq, rfl⟩ := List.mem_map.1 hg
  exact ⟨(g1 q hq).1, hb _ (g1 q hq).2 (h2 q hq)⟩

theorem QK {f : List aB} (h : (told f).2 = 0) : eB (told f).1 = true := by
  unfold told at h ⊢
  split at h
  · rename_i c; rw [if_pos c]; exact c
  · simp at h

theorem UO {f : List aB} {t : Int} (hf : eB f = true) (h : (ahead f t).2 = 0) : eB (ahead f t).1 = true := by
  unfold ahead at h ⊢
  rw [if_pos hf] at h ⊢
  split
  · exact hf
  · rename_i c; rw [if_neg c] at h; exact QK h

theorem WM {f : List aB} {t : Int} (hf : eB f = true) (h : (rest f t).2 = 0) : eB (rest f t).1 = true := by
  unfold rest at h ⊢
  rw [if_pos hf] at h ⊢
  split
  · exact DI
  · rename_i c
    rw [if_neg c] at h
    split
    · exact hf
    · rename_i c2; rw [if_neg c2] at h; exact QK h

theorem AA {l : List aC} {t : Int} (h : (jK l t).2 = 0) : kQ (jK l t).1 = true := MK (fun _ a b => UO a b) h

theorem JS {l : List aC} {t : Int} (h : (pM l t).2 = 0) : kQ (pM l t).1 = true := MK (fun _ a b => WM a b) h

theorem uY {l : List aC} {t : Int} (h0 : 0 ≤ t) (ht : t < 1125899906842624) (h : (jK l t).2 = 0) (r : List aF) : bN (jK l t).1 r = vW t (bN l r) := by
  have hm := (tO h).1
  have h1 := JQ (by1 := fun f => ahead f t) (by rw [IS h0]) h r
  have h2 := NH (by1 := fun f => ahead f t) (by rw [IS h0]) h r
  rw [mL hm] at h1 h2
  have := mL (AA h) r
  unfold jK at this ⊢
  rw [← this, h1, VJ (kY hm r) ht h2]

theorem EF {l : List aC} {t : Int} (h0 : 0 ≤ t) (ht : t < 1125899906842624) (h : (pM l t).2 = 0) (r : List aF) : bN (pM l t).1 r = vQ t (bN l r) := by
  have hm := (tO h).1
  have h1 := JQ (by1 := fun f => rest f t) (by rw [LF]) h r
  have h2 := NH (by1 := fun f => rest f t) (by rw [LF]) h r
  rw [mL hm] at h1 h2
  have := mL (JS h) r
  unfold pM at this ⊢
  rw [← this, h1, YF (kY hm r) h0 ht h2]

theorem NQ {a b : List aC} (ha : kQ a = true) (hb : kQ b = true) (h : ∀ r t, -2 < t → t < 1125899906842624 → val (bN a r) t = val (bN b r) t) : a = b :=
  VZ ha hb fun r => by
    rw [mL ha, mL hb]
    exact (SL (kY ha r)).ext (SL (kY hb r)) fun t h1 h2 => h r t h1 h2

theorem NT {l m : List aC} {d t : Int} (h0 : 0 ≤ t) (ht : t < 1125899906842624) (e1 : (jK l t).2 = 0) (e2 : (jK m t).2 = 0) (he : (jK l t).1 = (jK m t).1) (g1 : (gX l d 0).2 = 0) (g2 : (gX m d 0).2 = 0)
    (i1 : (jK (gX l d 0).1 t).2 = 0) (i2 : (jK (gX m d 0).1 t).2 = 0) : (jK (gX l d 0).1 t).1 = (jK (gX m d 0).1 t).1 := by
  refine NQ (AA i1) (AA i2) fun r s s1 s2 => ?_
  have ml := (tO e1).1
  have mm := (tO e2).1
  rw [uY h0 ht i1, uY h0 ht i2, GR (kY (uL.1 (EB g1)).1 r), GR (kY (uL.1 (EB g2)).1 r)]
  split
  · rename_i hs
    rw [IQ g1 r s1 s2, IQ g2 r s1 s2, FB hs (iP.1 (kY ml r)).2, FB hs (iP.1 (kY mm r)).2]
    have : cW t (bN l r) = cW t (bN m r) := by
      rw [← GI, ← GI (bN m r), ← uY h0 ht e1, ← uY h0 ht e2, he]
    rw [this]
  · rfl

theorem JO {d t : Int} : ∀ {f : List aB} {l : Int}, mH l f → oP d t f = oP d t (aft t f)
  | [], _, _ => rfl
  | j :: r, l, h => by
    unfold aft
    split
    · rfl
    · rename_i hj
      rw [zP, if_neg (by omega), List.nil_append, JO h.2]

theorem RZ {d t : Int} (h0 : 0 ≤ t) {f : List aB} (hf : eB f = true) : oP d t (vQ t f) = oP d t f := by
  rw [JO (iP.1 hf).2]
  unfold vQ
  rw [CP]
  split
  · rfl
  · rw [zP, if_neg (by simp only; omega)]; rfl

theorem MC {l : List aC} {d t : Int} (h0 : 0 ≤ t) (ht : t < 1125899906842624) (g : (gX l d 0).2 = 0) (hk : (pM l t).2 = 0) : gX (pM l t).1 d t = gX l d t := by
  obtain ⟨m1, t1, d1, d2, _, _, _⟩ := EY g
  have mr := JS hk
  have tr : rE (pM l t).1 = true := uL.2 ⟨mr, fun r => by
    rw [EF h0 ht hk]
    refine JI (VI (kY m1 r) (by omega)) fun s s1 s2 => ?_
    rw [TV (kY m1 r) s (by omega)]
    exact (uL.1 t1).2 r _⟩
  obtain ⟨a1, a2⟩ := KY (frm := t) mr tr d1 d2 h0 (by omega)
  obtain ⟨b1, b2⟩ := KY (frm := t) m1 t1 d1 d2 h0 (by omega)
  obtain ⟨u1, u2⟩ := FC (d := d) mr h0 d1
  obtain ⟨v1, v2⟩ := FC (d := d) m1 h0 d1
  rw [a1, b1]
  unfold iB
  rw [u1, u2, v1, v2, SB (a := nM d t (pM l t).1) (b := nM d t l) fun r => by
    rw [oU, oU, EF h0 ht hk, RZ h0 (kY m1 r)]]

end Go.Abs
namespace Go.Abs
open Go
theorem FJ (l0 : (List aC)) (m0 : ∀ a ∈ l0, oO a) (y0 : List.length l0 * 40 ≤ 140737488351232) (l1 : (List aC)) (m1 : ∀ a ∈ l1, oO a) (y1 : List.length l1 * 40 ≤ 140737488351232) (a2 : Int) (w2 : vE a2) (a3 : Int) (w3 : vE a3) : nK l0 l1 a2 a3 = some true := by
  have k0 := UA m0 y0
  have k1 := UA m1 y1
  unfold nK
  rw [yC k0, yC k1]
  simp only [Option.bind_some]
  by_cases e1 : (jK l0 a3).2 = 0
  · by_cases e2 : (jK l1 a3).2 = 0
    · simp only [e1, e2, decide_true, Bool.not_true, Bool.or_self, Bool.not_false, eX, cond_true, yM (GN k0 a3), Option.bind_some, Bool.false_or]
      by_cases e3 : (jK l0 a3).1 = (jK l1 a3).1
      · by_cases t0 : 0 ≤ a3
        · by_cases t1 : a3 < 1125899906842624
          · have n0 : decide (a3 < 0) = false := by simp; omega
            have n1 : decide (1125899906842624 ≤ a3) = false := by simp; omega
            simp only [e3, decide_true, Bool.not_true, Bool.false_or, n0, n1, cond_false, zM k0, zM k1, Option.bind_some, tT]
            by_cases g1 : (gX l0 a2 0).2 = 0
            · by_cases g2 : (gX l1 a2 0).2 = 0
              · have ka := CT k0 a2 0
                have kb := CT k1 a2 0
                simp only [g1, g2, decide_true, Bool.not_true, Bool.or_self, cond_false, yC ka, yC kb, Option.bind_some, VG k0, yM (GN ka a3), zM (SP k0 a3)]
                have hR : (cond (!decide ((pM l0 a3).2 = 0)) (some true) ((mG (gX l0 a2 a3).1 (gX (pM l0 a3).1 a2 a3).1).bind fun x50 => some (true && x50))) = some true := by
                  by_cases hk : (pM l0 a3).2 = 0
                  · rw [MC t0 t1 g1 hk, yM (CT k0 a2 a3)]
                    simp [hk]
                  · simp [hk]
                by_cases i1 : (jK (gX l0 a2 0).1 a3).2 = 0
                · by_cases i2 : (jK (gX l1 a2 0).1 a3).2 = 0
                  · have := NT t0 t1 e1 e2 e3 g1 g2 i1 i2
                    simpa [i1, i2, eX, this] using hR
                  · simpa [i1, i2, eX] using hR
                · simpa [i1, eX] using hR
              · simp [g1, g2]
            · simp [g1]
          · have n1 : decide (1125899906842624 ≤ a3) = true := by simp; omega
            simp [n1, tT]
        · have n0 : decide (a3 < 0) = true := by simp; omega
          simp [n0, tT]
      · simp [e3, tT]
    · simp [e2, eX, tT]
  · simp [e1, eX, tT]

end Go.Abs
