/- What the law CountsParts stands on: the framework, the given functions as plain functions, their walks, and the plain laws; part 5. -/
import Derived.Test.YtfhaegpflbcmgaaCountsPartsZ4
set_option linter.unusedSimpArgs false
set_option linter.unusedVariables false
namespace Go.Abs
open Go
def told (f : List aM) : List aM × Int := if mG f then (f, 0) else ([], 7)

def two (OP : Int → Int → Int) (f g : List aM) : List aM × Int := if mG f && mG g then told (comb OP f g) else ([], 2)

end Go.Abs
namespace Go.Abs
open Go
theorem sV.yY {l t : Int} {f : List aM} (h : sV l f) (ht : t ≤ l) : val f t = 0 := DX fun j hj => by have := (h.above j hj).1; omega

end Go.Abs
namespace Go.Abs
open Go
def uN (f : List aM) : Nat → Int
  | 0 => -2
  | k + 1 => (f.getD k default).At

theorem QE {f : List aM} {i : Nat} {a : aM} {last : Int} (ha : f[i]? = some a) (hl : f.length ≤ 1024) (hlast : last = uN f i) (hp : -2 ≤ last) (hp' : 0 < i → -1 ≤ last) :
    lA f i = some (if oK last a then .inr (.inr false) else .inl ((i + 1 : Nat) : Int)) := by
  obtain ⟨d1, d2, d3, d4⟩ := idx ha (by omega)
  have hlt : i < f.length := (List.getElem?_eq_some_iff.1 ha).1
  simp only [lA, d1, cond_true, d3, d4]
  rw [aJ d2, aJ (fun _ => d2), aJ (fun _ => d2), aJ (fun _ => d2), aJ (fun _ => d2), aJ (fun _ => d2)]
  cases i with
  | zero =>
    rw [aJ (fun h => by simp at h)]
    have hm2 : last = -2 := hlast
    subst hm2
    by_cases hb : oK (-2) a = true
    · rw [if_pos hb]
      have hx : (((((decide (a.At < -1)) || (decide (1125899906842624 ≤ a.At))) || (decide (a.Net = 0))) || (decide (1048576 < a.Net))) || (decide (a.Net < -1048576))) = true := by
        simp [oK, ET] at hb ⊢; omega
      rw [hx, cond_true]
    · have hb' : oK (-2) a = false := by simpa using hb
      rw [if_neg hb]
      rw [lC] at hb'
      have hx : (((((decide (a.At < -1)) || (decide (1125899906842624 ≤ a.At))) || (decide (a.Net = 0))) || (decide (1048576 < a.Net))) || (decide (a.Net < -1048576))) = false := by
        simp; omega
      rw [hx, cond_false]
      simp
  | succ k =>
    have hw : IntKind.i64.wrap (((k + 1 : Nat) : Int) - 1) = (k : Int) := by rw [dB (by omega) (by omega)]; omega
    have hg : List.getD f (Int.toNat (k : Int)) default = f.getD k default := by rw [Int.toNat_natCast]
    rw [hw, hg, aJ (fun _ => ⟨by omega, by omega⟩)]
    have hpos : decide ((0 : Int) < ((k + 1 : Nat) : Int)) = true := by simp
    have hp1 := hp' (by omega)
    have hl2 : (f.getD k default).At = last := hlast.symm
    rw [hpos, Bool.true_and, hl2]
    by_cases hb : oK last a = true
    · rw [if_pos hb]
      by_cases hx : (((((decide (a.At < -1)) || (decide (1125899906842624 ≤ a.At))) || (decide (a.Net = 0))) || (decide (1048576 < a.Net))) || (decide (a.Net < -1048576))) = true
      · rw [hx, cond_true]
      · have hx' : (((((decide (a.At < -1)) || (decide (1125899906842624 ≤ a.At))) || (decide (a.Net = 0))) || (decide (1048576 < a.Net))) || (decide (a.Net < -1048576))) = false := by simpa using hx
        have hy : decide (a.At ≤ last) = true := by
          simp [oK, ET] at hb hx' ⊢; omega
        rw [hx', cond_false, hy, cond_true]
    · have hb' : oK last a = false := by simpa using hb
      rw [if_neg hb]
      rw [lC] at hb'
      have hx : (((((decide (a.At < -1)) || (decide (1125899906842624 ≤ a.At))) || (decide (a.Net = 0))) || (decide (1048576 < a.Net))) || (decide (a.Net < -1048576))) = false := by
        simp; omega
      have hy : decide (a.At ≤ last) = false := by simp; omega
      rw [hx, cond_false, hy, cond_false]

theorem LL {f : List aM} (hl : f.length ≤ 1024) : ∀ (m k : Nat), f.length - k = m → k ≤ f.length → -2 ≤ uN f k → (0 < k → -1 ≤ uN f k) → lp (fun s => lA f s) (k : Int) = some (if chk (uN f k) (f.drop k) = true then .inl () else .inr false)
  | 0, k, hm, hk, _, _ => by
    have : k = f.length := by omega
    subst this
    rw [List.drop_length]
    refine cQ ?_
    show lA f _ = _
    simp [lA, chk]
  | m + 1, k, hm, hk, hp, hp' => by
    have h1 : k < f.length := by omega
    have hb := QE (List.getElem?_eq_getElem h1) hl rfl hp hp'
    have e1 : f.drop k = f[k] :: f.drop (k + 1) := List.drop_eq_getElem_cons h1
    have hpa : uN f (k + 1) = f[k].At := by simp [uN, List.getD_eq_getElem?_getD, h1]
    rw [e1]
    by_cases h : oK (uN f k) f[k] = true
    · rw [if_pos h] at hb
      rw [cQ (show (fun s => lA f s) (k : Int) = _ from hb)]
      simp [chk, h]
    · rw [if_neg h] at hb
      have h' : oK (uN f k) f[k] = false := by simpa using h
      have := lC.1 h'
      rw [fB (show (fun s => lA f s) (k : Int) = _ from hb), LL hl m (k + 1) (by omega) (by omega) (by rw [hpa]; omega) (fun _ => by rw [hpa]; omega), hpa]
      simp [chk, h']

theorem LC (f : List aM) : pS f = some (mG f) := by
  unfold pS mG
  by_cases hl : f.length ≤ 1024
  · have h1 : decide ((1024 : Int) < ((f.length : Nat) : Int)) = false := by simp; omega
    rw [h1, cond_false]
    unfold vY
    have := LL hl f.length 0 rfl (Nat.zero_le _) (by simp [uN]) (by omega)
    simp only [Int.natCast_zero, List.drop_zero, uN] at this
    rw [this]
    cases h : chk (-2) f <;> simp [tA, hl]
  · have h1 : decide ((1024 : Int) < ((f.length : Nat) : Int)) = true := by simp; omega
    rw [h1, cond_true]
    simp [hl]

end Go.Abs
namespace Go.Abs
open Go
def aAM (f : List aM) : Int := (f.map aM.Net).sum

def WV (t : Int) : List aM → List aM
  | [] => []
  | j :: r => if t ≤ j.At then [] else j :: WV t r

def aft (t : Int) : List aM → List aM
  | [] => []
  | j :: r => if t ≤ j.At then j :: r else aft t r

end Go.Abs
namespace Go.Abs
open Go
def aBb (t : Int) (f : List aM) : List aM := (if aAM (WV t f) = 0 then [] else [⟨-1, aAM (WV t f)⟩]) ++ aft t f

def rest (f : List aM) (t : Int) : List aM × Int :=
  if mG f then (if 1125899906842624 ≤ t then ([], 0) else if t ≤ -1 then (f, 0) else told (aBb t f)) else ([], 2)

end Go.Abs
namespace Go.Abs
open Go
def Up (last : Int) : List aM → Prop
  | [] => True
  | j :: r => (last < j.At ∧ j.At < 1125899906842624 ∧ j.Net ≠ 0) ∧ Up j.At r

theorem Up.above : ∀ {f : List aM} {last : Int}, Up last f → ∀ j ∈ f, last < j.At ∧ j.At < 1125899906842624 ∧ j.Net ≠ 0
  | [], _, _, j, hj => by simp at hj
  | a :: r, last, h, j, hj => by
    rcases List.mem_cons.1 hj with rfl | hj
    · exact h.1
    · have := h.2.above j hj
      have h1 := h.1.1
      exact ⟨by omega, this.2⟩

theorem Up.yY {l t : Int} {f : List aM} (h : Up l f) (ht : t ≤ l) : val f t = 0 := DX fun j hj => by have := (h.above j hj).1; omega

theorem Up.weaken {a b : Int} {f : List aM} (h : Up b f) (hab : a ≤ b) : Up a f := by
  cases f with
  | nil => trivial
  | cons j r => exact ⟨⟨by have := h.1.1; omega, h.1.2⟩, h.2⟩

theorem sV.up : ∀ {f : List aM} {last : Int}, sV last f → Up last f
  | [], _, _ => trivial
  | _ :: _, _, h => ⟨⟨h.1.1, h.1.2.1, h.1.2.2.1⟩, h.2.up⟩

theorem Up.ext : ∀ {f g : List aM} {last : Int}, Up last f → Up last g → (∀ t, last < t → t < 1125899906842624 → val f t = val g t) → f = g
  | [], [], _, _, _, _ => rfl
  | j :: r, [], last, hf, _, h => by
    have := h j.At hf.1.1 hf.1.2.1
    rw [lJ, if_pos (Int.le_refl _), hf.2.yY (Int.le_refl _), RS] at this
    exact absurd (by omega) hf.1.2.2
  | [], k :: s, last, _, hg, h => by
    have := h k.At hg.1.1 hg.1.2.1
    rw [lJ, if_pos (Int.le_refl _), hg.2.yY (Int.le_refl _), RS] at this
    exact absurd (by omega) hg.1.2.2
  | j :: r, k :: s, last, hf, hg, h => by
    have h1 := h j.At hf.1.1 hf.1.2.1
    have h2 := h k.At hg.1.1 hg.1.2.1
    rw [lJ, if_pos (Int.le_refl _), hf.2.yY (Int.le_refl _), lJ] at h1
    rw [lJ, lJ k, if_pos (Int.le_refl _), hg.2.yY (Int.le_refl _)] at h2
    have n1 := hf.1.2.2
    have n2 := hg.1.2.2
    have he : j.At = k.At := by
      rcases Int.lt_trichotomy j.At k.At with h3 | h3 | h3
      · rw [if_neg (by omega), hg.2.yY (by omega)] at h1; omega
      · exact h3
      · rw [if_neg (by omega), hf.2.yY (by omega)] at h2; omega
    rw [if_pos (by omega), hg.2.yY (by omega)] at h1
    have hj : j = k := by
      obtain ⟨a, b⟩ := j; obtain ⟨c, d⟩ := k
      simp only at he h1
      simp only [Int.add_zero] at h1
      rw [he, h1]
    subst hj
    rw [hf.2.ext hg.2 (fun t ht ht' => by
      have := h t (by have := hf.1.1; omega) ht'
      rw [lJ, lJ] at this; omega)]

def Inc (last : Int) : List Int → Prop
  | [] => True
  | p :: r => (last < p ∧ p < 1125899906842624) ∧ Inc p r

theorem Inc.above : ∀ {ps : List Int} {last : Int}, Inc last ps → ∀ p ∈ ps, last < p ∧ p < 1125899906842624
  | [], _, _, j, hj => by simp at hj
  | a :: r, last, h, j, hj => by
    rcases List.mem_cons.1 hj with rfl | hj
    · exact h.1
    · have := h.2.above j hj
      have h1 := h.1.1
      exact ⟨by omega, this.2⟩

end Go.Abs
namespace Go.Abs
open Go
theorem QD {f : List aM} (t : Int) (hb : ∀ j ∈ f, j.Net ≤ 1048576 ∧ -1048576 ≤ j.Net) (hl : f.length ≤ 1099511627776) : mP f t = some (val f t) := by
  unfold mP tM
  rw [qS (l := f) (body := fun s : Int × Int => jP f t s.1 s.2) (fun v i => (v, i)) (fun v r => v + val r t)
    (fun v r => (∀ j ∈ r, j.Net ≤ 1048576 ∧ -1048576 ≤ j.Net) ∧ r.length ≤ 1099511627776 ∧ v ≤ 1048576 * (1099511627776 - r.length) ∧ -(1048576 * (1099511627776 - r.length)) ≤ v) 0 ?_ ?_ ?_]
  · simp [qE]
  · intro i a r v ha ⟨h1, h2, h3, h4⟩
    obtain ⟨d1, d2, d3, d4⟩ := idx ha (by omega)
    have hj := h1 a (List.mem_cons_self ..)
    simp only [List.length_cons] at h2 h3 h4
    left
    by_cases h : a.At ≤ t
    · refine ⟨v + a.Net, ?_, ⟨fun j hj => h1 j (List.mem_cons_of_mem _ hj), by omega, by omega, by omega⟩, ?_⟩
      · show jP f t v i = _
        have hw : IntKind.i64.wrap (v + a.Net) = v + a.Net := dB (by omega) (by omega)
        simp only [jP, nW, d1, cond_true, aJ d2, d3, d4, h, decide_true, hw]
      · show v + a.Net + val r t = v + val (a :: r) t
        rw [lJ, if_pos h]; omega
    · refine ⟨v, ?_, ⟨fun j hj => h1 j (List.mem_cons_of_mem _ hj), by omega, by omega, by omega⟩, ?_⟩
      · show jP f t v i = _
        simp only [jP, nW, d1, cond_true, aJ d2, d3, d4, h, decide_false, cond_false]
      · show v + val r t = v + val (a :: r) t
        rw [lJ, if_neg h]; omega
  · intro s _
    show jP f t s (f.length : Nat) = _
    simp only [jP, iC, cond_false]
    simp [val]
  · exact ⟨hb, hl, by omega, by omega⟩

theorem GJ {f : List aM} (h : mG f = true) : ∀ j ∈ f, j.Net ≤ 1048576 ∧ -1048576 ≤ j.Net := fun j hj => by have := (qC.1 h).2.above j hj; omega

theorem DJ {f : List aM} (h : mG f = true) (t : Int) : mP f t = some (val f t) :=
  QD t (GJ h) (by have := (qC.1 h).1; omega)

def lF (t : Int) : List Int → List Int
  | [] => [t]
  | p :: r => if p = t then p :: r else if t < p then t :: p :: r else p :: lF t r

theorem LG {t x : Int} : ∀ {ps : List Int}, x ∈ lF t ps ↔ x = t ∨ x ∈ ps
  | [] => by simp [lF]
  | p :: r => by
    unfold lF
    split
    · rename_i h; subst h; simp
    · split
      · simp
      · simp only [List.mem_cons, LG (ps := r)]; constructor <;> (intro h; rcases h with h | h | h <;> simp [h])

theorem EF {t : Int} : ∀ {ps : List Int} {last : Int}, Inc last ps → last < t → t < 1125899906842624 → Inc last (lF t ps)
  | [], last, _, h1, h2 => ⟨⟨h1, h2⟩, trivial⟩
  | p :: r, last, h, h1, h2 => by
    unfold lF
    split
    · exact h
    · split
      · rename_i h3 h4
        exact ⟨⟨h1, h2⟩, ⟨h4, h.1.2⟩, h.2⟩
      · exact ⟨h.1, EF h.2 (by omega) h2⟩

theorem ED {t : Int} : ∀ {ps : List Int}, (lF t ps).length ≤ ps.length + 1
  | [] => by simp [lF]
  | p :: r => by
    unfold lF
    split
    · simp
    · split
      · simp
      · simp only [List.length_cons]; have := ED (t := t) (ps := r); omega

theorem DE {t : Int} : ∀ {ps : List Int}, (∀ x ∈ ps, x < t) → lF t ps = ps ++ [t]
  | [], _ => rfl
  | p :: r, h => by
    have := h p (List.mem_cons_self ..)
    unfold lF
    rw [if_neg (by omega), if_neg (by omega), DE (fun x hx => h x (List.mem_cons_of_mem _ hx))]; rfl

theorem HX {t : Int} : ∀ {ps : List Int} {last : Int}, Inc last ps → t ∈ ps → lF t ps = ps
  | [], _, _, h => by simp at h
  | p :: r, last, hi, h => by
    unfold lF
    split
    · rfl
    · rename_i hp
      rcases List.mem_cons.1 h with h | h
      · exact absurd h.symm hp
      · have := (hi.2.above t h).1
        rw [if_neg (by omega), HX hi.2 h]

theorem VV {l out : List Int} {t a : Int} {put : Bool} {i : Nat} (ha : l[i]? = some a) (hl : l.length ≤ 1099511627776) (ho : out.length ≤ 2199023255552) :
    jC l t out put i = some (if a = t then .inr (.inr l) else if t < a ∧ put = false then .inl (out ++ [t] ++ [a], true, ((i + 1 : Nat) : Int)) else .inl (out ++ [a], put, ((i + 1 : Nat) : Int))) := by
  obtain ⟨d1, d2, d3, d4⟩ := idx ha (by omega)
  simp only [jC, rJ, d1, cond_true, aJ d2, d3, d4]
  by_cases h1 : a = t
  · simp [h1]
  · rw [decide_eq_false h1, cond_false, if_neg h1]
    by_cases h2 : t < a
    · cases put
      · simp only [h2, decide_true, Bool.not_false, Bool.and_self, cond_true, and_self, if_true]
        rw [aJ (by simp only [List.length_cons, List.length_nil]; omega), aJ (by simp only [List.length_append, List.length_cons, List.length_nil]; omega)]
      · simp only [h2, decide_true, Bool.not_true, Bool.and_false, cond_false, and_false, if_false, reduceCtorEq]
        rw [aJ (by simp only [List.length_cons, List.length_nil]; omega)]
    · simp only [h2, decide_false, Bool.false_and, cond_false, false_and, if_false]
      rw [aJ (by simp only [List.length_cons, List.length_nil]; omega)]

theorem ZT {l : List Int} {last t : Int} (hi : Inc last l) (hl : l.length ≤ 1099511627776) : tJ l t = some (lF t l) := by
  unfold tJ uZ
  rw [qS (l := l) (body := fun s : List Int × Bool × Int => jC l t s.1 s.2.1 s.2.2) (fun (s : List Int × Bool) i => (s.1, s.2, i))
    (fun s r => if s.2 then .inl (s.1 ++ r, true) else if t ∈ r then .inr l else if (∃ x ∈ r, t < x) then .inl (s.1 ++ lF t r, true) else .inl (s.1 ++ r, false))
    (fun s r => (∃ m, Inc m r) ∧ (s.2 = true → ∀ x ∈ r, t < x) ∧ r.length ≤ 1099511627776 ∧ s.1.length + r.length ≤ 1099511627777 + (if s.2 then 1 else 0)) ([], false) ?_ ?_ ?_]
  · simp only [Bool.false_eq_true, if_false, List.nil_append, Option.bind_some]
    by_cases h1 : t ∈ l
    · simp [h1, HX hi h1]
    · simp only [h1, if_false]
      by_cases h2 : ∃ x ∈ l, t < x
      · simp only [h2, if_true]
        simp [pG, pE]
      · simp only [h2, if_false]
        have : ∀ x ∈ l, x < t := fun x hx => by
          have h3 : ¬ t < x := fun h => h2 ⟨x, hx, h⟩
          have h4 : x ≠ t := fun h => h1 (h ▸ hx)
          omega
        rw [DE this]
        simp only [Sum.elim_inl, pG, pE, Bool.not_false, cond_true]
        rw [aJ (by simp only [List.length_cons, List.length_nil]; omega)]
  · rintro i a r ⟨out, put⟩ ha ⟨⟨m, hm⟩, h1, h2, h3⟩
    simp only [List.length_cons] at h2 h3
    have hb := VV (t := t) (put := put) (out := out) ha hl (by split at h3 <;> omega)
    have hab : ∀ x ∈ r, a < x := fun x hx => (hm.2.above x hx).1
    cases put
    · by_cases e : a = t
      · right
        show jC l t out false i = _
        rw [hb]; simp [e]
      · left
        by_cases e2 : t < a
        · have hnt : t ∉ a :: r := fun h => by
            rcases List.mem_cons.1 h with h | h
            · exact e h.symm
            · have := hab t h; omega
          refine ⟨(out ++ [t] ++ [a], true), ?_, ⟨⟨a, hm.2⟩, fun _ x hx => by have := hab x hx; omega, by omega, by simp only [List.length_append, List.length_cons, List.length_nil, Bool.false_eq_true, if_false, if_true] at h3 ⊢; omega⟩, ?_⟩
          · show jC l t out false i = _
            rw [hb]; simp [e, e2]
          · have hex : ∃ x ∈ a :: r, t < x := ⟨a, List.mem_cons_self .., e2⟩
            simp only [if_true, Bool.false_eq_true, if_false, hnt, hex]
            simp [lF, e, e2]
        · refine ⟨(out ++ [a], false), ?_, ⟨⟨a, hm.2⟩, fun h => absurd h (by simp), by omega, by simp only [List.length_append, List.length_cons, List.length_nil, Bool.false_eq_true, if_false] at h3 ⊢; omega⟩, ?_⟩
          · show jC l t out false i = _
            rw [hb]; simp [e, e2]
          · have i1 : (t ∈ a :: r) ↔ t ∈ r := by simp only [List.mem_cons]; constructor; (intro h; rcases h with h | h; exact absurd h.symm e; exact h); exact Or.inr
            have i2 : (∃ x ∈ a :: r, t < x) ↔ (∃ x ∈ r, t < x) := by
              constructor
              · rintro ⟨x, hx, hx'⟩
                rcases List.mem_cons.1 hx with rfl | hx
                · exact absurd hx' e2
                · exact ⟨x, hx, hx'⟩
              · rintro ⟨x, hx, hx'⟩; exact ⟨x, List.mem_cons_of_mem _ hx, hx'⟩
            simp only [Bool.false_eq_true, if_false, i1, i2]
            simp [lF, e, e2]
    · left
      have ht := h1 rfl a (List.mem_cons_self ..)
      refine ⟨(out ++ [a], true), ?_, ⟨⟨a, hm.2⟩, fun _ x hx => h1 rfl x (List.mem_cons_of_mem _ hx), by omega, by simp only [List.length_append, List.length_cons, List.length_nil, if_true] at h3 ⊢; omega⟩, ?_⟩
      · show jC l t out true i = _
        have : a ≠ t := by omega
        rw [hb]; simp [this]
      · simp
  · rintro ⟨out, put⟩ _
    show jC l t out put (l.length : Nat) = _
    simp only [jC, iC, cond_false]
    cases put <;> simp
  · exact ⟨⟨last, hi⟩, fun h => absurd h (by simp), hl, by simp only [List.length_nil]; simp; omega⟩

end Go.Abs
namespace Go.Abs
open Go
def mn (a b : Int) : Int := if b < a then b else a

def parts (v : Int) : List aM → List Int
  | [] => []
  | j :: r => (v + j.Net) :: parts (v + j.Net) r

def sW (f : List aM) : Int := (f.map fun j => val f j.At).foldl mn (val f (-1))

theorem parts_eq : ∀ {f : List aM} {l v : Int}, sV l f → parts v f = f.map fun j => v + val f j.At
  | [], _, _, _ => rfl
  | j :: r, l, v, h => by
    simp only [parts, List.map_cons]
    rw [parts_eq h.2, lJ, if_pos (Int.le_refl _), h.2.yY (Int.le_refl _), Int.add_zero]
    congr 1
    apply List.map_congr_left
    intro k hk
    have := (h.2.above k hk).1
    rw [lJ, if_pos (by omega)]; omega

theorem VP {j : aM} {r : List aM} (h : sV (-2) (j :: r)) : val (j :: r) (-1) = if j.At = -1 then j.Net else 0 := by
  have := h.1.1
  by_cases e : j.At = -1
  · rw [if_pos e, lJ, if_pos (by omega), h.2.yY (by omega)]; omega
  · rw [if_neg e, DX]
    intro k hk
    rcases List.mem_cons.1 hk with rfl | hk
    · omega
    · have := (h.2.above k hk).1; omega

theorem HC {f : List aM} (hf : mG f = true) (m : Int) (hm : -1125899906842624 ≤ m ∧ m ≤ 1125899906842624) : rW 0 m f (f.length : Nat) 0 = some ((f.map fun j => val f j.At).foldl mn m) := by
  obtain ⟨hl, hr⟩ := qC.1 hf
  unfold rW
  rw [qS (l := f) (body := fun s : Int × Int × Int => mM f (f.length : Nat) s.1 s.2.1 s.2.2) (fun (s : Int × Int) i => (s.1, s.2, i)) (fun s r => (parts s.1 r).foldl mn s.2)
    (fun s r => (∀ j ∈ r, j.Net ≤ 1048576 ∧ -1048576 ≤ j.Net) ∧ r.length ≤ 1024 ∧ s.1 ≤ 1048576 * (1024 - r.length) ∧ -(1048576 * (1024 - r.length)) ≤ s.1) (0, m) ?_ ?_ ?_]
  · simp only [Option.bind_some, sA, parts_eq hr, Int.zero_add]
  · rintro i a r ⟨v, m⟩ ha ⟨h1, h2, h3, h4⟩
    obtain ⟨d1, d2, d3, d4⟩ := idx ha (by omega)
    have hj := h1 a (List.mem_cons_self ..)
    simp only [List.length_cons] at h2 h3 h4
    have hw : IntKind.i64.wrap (v + a.Net) = v + a.Net := dB (by omega) (by omega)
    left
    refine ⟨(v + a.Net, mn m (v + a.Net)), ?_, ⟨fun j hj => h1 j (List.mem_cons_of_mem _ hj), by omega, by simp only; omega, by simp only; omega⟩, rfl⟩
    show mM f (f.length : Nat) v m i = _
    simp only [mM, d1, cond_true, aJ d2, d3, d4, hw, mn]
  · rintro ⟨v, m⟩ _
    show mM f (f.length : Nat) v m (f.length : Nat) = _
    simp only [mM, iC, cond_false, parts, List.foldl_nil]
  · exact ⟨GJ hf, hl, by simp only; omega, by simp only; omega⟩

theorem WQ (f : List aM) : tE f = some (if mG f then sW f else 0) := by
  unfold tE
  rw [ND]
  cases h : mG f
  · simp
  · cases f with
    | nil => simp [sW, val]
    | cons j r =>
      obtain ⟨hl, hr⟩ := qC.1 h
      have hne : decide (((List.length (j :: r) : Nat) : Int) = 0) = false := by simp; omega
      simp only [Option.bind_some, Bool.not_true, Bool.false_or, hne, cond_false, aJ aBm, aAz, if_true]
      have hj := hr.1
      unfold sW
      rw [VP hr]
      by_cases e : j.At = -1
      · simp only [e, decide_true, cond_true, if_true, oX]
        exact HC h j.Net (by omega)
      · simp only [e, decide_false, cond_false, if_false, oX]
        exact HC h 0 (by omega)

theorem QF (f : List aM) : sB f = some (if mG f then sW f else 0) := by
  unfold sB
  rw [LC]
  cases h : mG f
  · simp
  · obtain ⟨hl, hr⟩ := qC.1 h
    simp only [Option.bind_some, Bool.not_true, cond_false, DJ h, if_true, uA]
    rw [qS (l := f) (body := fun s : Int × Int => lO f s.1 s.2) (fun m i => (m, i)) (fun m r => (r.map fun j => val f j.At).foldl mn m) (fun _ _ => True) (val f (-1)) ?_ ?_ trivial]
    · simp [qN, sW]
    · rintro i a r m ha _
      obtain ⟨d1, d2, d3, d4⟩ := idx ha (by omega)
      left
      refine ⟨mn m (val f a.At), ?_, trivial, rfl⟩
      show lO f m i = _
      simp only [lO, qT, d1, cond_true, aJ d2, d3, d4, DJ h, Option.bind_some, mn]
      by_cases e : val f a.At < m <;> simp [e]
    · intro m _
      show lO f m (f.length : Nat) = _
      simp only [lO, iC, cond_false, List.map_nil, List.foldl_nil]

theorem aAa : mG [] = true := by decide

end Go.Abs
namespace Go.Abs
open Go
theorem w1 : IntKind.i64.wrap (0 + 1) = 1 := by rw [dB] <;> omega

theorem w2 : IntKind.i64.wrap (1 + 1) = 2 := by rw [dB] <;> omega

theorem w3 : IntKind.i64.wrap (1 - 1) = 0 := by rw [dB] <;> omega

theorem v0 : IntKind.i64.wrap 0 = 0 := by rw [dB] <;> omega

theorem v1 : IntKind.i64.wrap 1 = 1 := by rw [dB] <;> omega

theorem v2 : IntKind.i64.wrap 2 = 2 := by rw [dB] <;> omega

theorem v3 : IntKind.i64.wrap (-1) = -1 := by rw [dB] <;> omega

end Go.Abs
namespace Go.Abs
open Go
variable {α : Type} [Inhabited α]
noncomputable def nX (f1 : α → Option Bool) (s0 : (List α)) (t7 : Int) (t8 : Int) : Option ((Int) ⊕ (Unit ⊕ Int)) :=
  cond (decide (t8 < t7))
  (bA (0 ≤ t8 ∧ t8 < ((List.length s0 : Nat) : Int)) <|
  (f1 (List.getD s0 (Int.toNat t8) default)).bind fun x2 =>
  cond x2
  (some (.inr (.inr t8)))
  (some (.inl (IntKind.i64.wrap (t8 + (1 : Int))))))
  (some (.inr (.inl ())))

theorem PB {l : List α} {f : α → Option Bool} {g : α → Bool} (hl : l.length ≤ 1099511627776) (hf : ∀ x ∈ l, f x = some (g x)) : ∀ (r : List α) (k : Nat), l.drop k = r → k ≤ l.length →
    ∃ x, lp (fun s => nX f l (l.length : Nat) s) (k : Int) = some x ∧ ((x = .inl () ∧ r.any g = false) ∨ (∃ i : Nat, x = .inr (i : Int) ∧ k ≤ i ∧ i < l.length ∧ r.any g = true ∧ g (l.getD i default) = true ∧ ∀ j, k ≤ j → j < i → g (l.getD j default) = false))
  | [], k, hd, hk => by
    have : k = l.length := by
      have := congrArg List.length hd
      simp only [List.length_drop, List.length_nil] at this; omega
    subst this
    refine ⟨.inl (), cQ ?_, Or.inl ⟨rfl, rfl⟩⟩
    show nX f l _ _ = _
    simp only [nX, iC, cond_false]
  | a :: r, k, hd, hk => by
    obtain ⟨h1, h2⟩ := drop_cons hd
    have hlt : k < l.length := (List.getElem?_eq_some_iff.1 h1).1
    obtain ⟨d1, d2, d3, d4⟩ := idx h1 (by omega)
    have hga : l.getD k default = a := by rw [Int.toNat_natCast] at d3; exact d3
    have hb : (fun s => nX f l (l.length : Nat) s) (k : Int) = some (if g a then .inr (.inr (k : Int)) else .inl ((k + 1 : Nat) : Int)) := by
      show nX f l _ _ = _
      simp only [nX, d1, cond_true, aJ d2, d3, d4, hf a (List.mem_of_getElem? h1), Option.bind_some]
      cases g a <;> simp
    cases hg : g a
    · rw [hg] at hb
      obtain ⟨x, e, hx⟩ := PB hl hf r (k + 1) h2 (by omega)
      refine ⟨x, by rw [fB hb]; exact e, ?_⟩
      rcases hx with ⟨rfl, h⟩ | ⟨i, rfl, h3, h4, h5, h6, h7⟩
      · exact Or.inl ⟨rfl, by simp [hg, h]⟩
      · refine Or.inr ⟨i, rfl, by omega, h4, by simp [h5], h6, fun j hj hj' => ?_⟩
        by_cases e : j = k
        · subst e; rw [hga, hg]
        · exact h7 j (by omega) hj'
    · rw [hg] at hb
      exact ⟨.inr (k : Int), cQ hb, Or.inr ⟨k, rfl, Nat.le_refl _, hlt, by simp [hg], by rw [hga, hg], fun j h h' => by omega⟩⟩

end Go.Abs
namespace Go.Abs
open Go
theorem KN (x y : ByteArray) : nB x y = decide (x = y) := by
  unfold nB
  rw [ByteArray.toList_eq, ByteArray.toList_eq]
  by_cases h : x = y
  · simp [h]
  · have : x.data.toList ≠ y.data.toList := by
      intro he
      apply h
      cases x; cases y
      congr 1
      exact Array.toList_inj.1 he
    have h2 : (x.data.toList == y.data.toList) = false := by simpa using this
    rw [h2]; simp [h]

theorem veq (a b : aB) : ((decide (a.Kind = b.Kind)) && ((decide (a.Num = b.Num)) && ((nB a.Text b.Text) && true))) = decide (a = b) := by
  rw [KN]
  obtain ⟨a1, a2, a3⟩ := a
  obtain ⟨b1, b2, b3⟩ := b
  by_cases h1 : a1 = b1 <;> by_cases h2 : a2 = b2 <;> by_cases h3 : a3 = b3 <;> simp [h1, h2, h3]

def AJ (v : aB) : Bool := decide (v.Kind = 1) && nB v.Text (⟨#[]⟩ : ByteArray)

def AF (v : aB) : Bool := ((decide (v.Kind = 2)) && (decide (v.Num = 0))) && (decide (((ByteArray.size v.Text : Nat) : Int) ≤ 64))

def qY (v : aB) : Bool := AJ v || AF v

def jV (r : List aB) : Bool := decide (r.length ≤ 8) && r.all qY

theorem of_eq (v : aB) : lG v = some (if AJ v then (.k_number v.Num, true) else if AF v then (.k_words v.Text, true) else (.none_, false)) := by
  unfold lG AJ AF
  cases (decide (v.Kind = 1) && nB v.Text (⟨#[]⟩ : ByteArray)) <;> cases (((decide (v.Kind = 2)) && (decide (v.Num = 0))) && (decide (((ByteArray.size v.Text : Nat) : Int) ≤ 64))) <;> rfl

theorem ZE (v : aB) : uI v = some (qY v) := by
  unfold uI qY
  rw [of_eq]
  cases AJ v <;> cases AF v <;> rfl

theorem IB (v : aB) : pU v = some (qY v) := by
  unfold pU qY AJ AF
  by_cases h : v.Kind = 1
  · simp [h]
  · simp [h]

theorem OA {l : List aB} {f : aB → Option Bool} {g : aB → Bool} (hl : l.length ≤ 1099511627776) (hf : ∀ x ∈ l, f x = some (g x)) : eY l f = some (l.any g) := by
  unfold eY iI gZ
  obtain ⟨x, e, hx⟩ := PB hl hf l 0 rfl (Nat.zero_le _)
  have e' : lp (fun s => hM f l (l.length : Nat) s) 0 = some x := e
  rw [e']
  rcases hx with ⟨rfl, h⟩ | ⟨i, rfl, _, _, h, _⟩
  · simp [fK, h]
  · simp [h]

theorem JM (r : List aB) : sX r = some (jV r) := by
  unfold sX jV
  by_cases h : r.length ≤ 8
  · have h1 : decide ((8 : Int) < ((r.length : Nat) : Int)) = false := by simp; omega
    rw [h1, cond_false, OA (g := fun v => !qY v) (by omega) (fun x _ => by simp [uM, ZE])]
    simp only [Option.bind_some, h, decide_true, Bool.true_and]
    congr 1
    rw [List.all_eq_not_any_not]
  · have h1 : decide ((8 : Int) < ((r.length : Nat) : Int)) = true := by simp; omega
    rw [h1, cond_true]
    simp [h]

theorem CD (r : List aB) (hl : r.length ≤ 1099511627776 * 16) : pX r = some (jV r) := by
  unfold pX wM
  have hl9 : (r.take 9).length ≤ 9 := by simp; omega
  rw [AT (l := r.take 9) (fun i => i) (fun v => !qY v) (.inr false) (.inl ()) ?_ ?_]
  · unfold jV
    by_cases h : r.length ≤ 8
    · have ht : r.take 9 = r := List.take_of_length_le (by omega)
      rw [ht, List.all_eq_not_any_not]
      cases h1 : (r.any fun v => !qY v)
      · have : ((r.length : Nat) : Int) ≤ 8 := by omega
        simp [qP, this, h]
      · simp
    · cases h1 : ((r.take 9).any fun v => !qY v)
      · have : ¬ ((r.length : Nat) : Int) ≤ 8 := by omega
        simp [qP, this, h]
      · simp [h]
  · intro i a ha
    have hi : i < (r.take 9).length := (List.getElem?_eq_some_iff.1 ha).1
    have hi2 : i < r.length := by simp at hi; omega
    have ha2 : r[i]? = some a := by
      rw [List.getElem?_take] at ha
      split at ha
      · exact ha
      · cases ha
    obtain ⟨d1, d2, d3, d4⟩ := idx ha2 (by omega)
    have h9 : decide ((i : Int) < 9) = true := by simp; omega
    show oN r i = _
    simp only [oN, d1, h9, Bool.and_self, cond_true, aJ d2, d3, d4, IB, Option.bind_some]
    cases qY a <;> simp
  · show oN r _ = _
    have : ((decide ((((r.take 9).length : Nat) : Int) < ((r.length : Nat) : Int))) && (decide ((((r.take 9).length : Nat) : Int) < 9))) = false := by
      rw [Bool.and_eq_false_iff]
      by_cases h : r.length ≤ 8
      · left; simp; omega
      · right; simp; omega
    simp only [oN, this, cond_false]

theorem TV {α : Type} [DecidableEq α] {f g : List α} {body : Int → Option (Int ⊕ (Unit ⊕ Bool))} (he : f.length = g.length)
    (hb : ∀ (i : Nat) a b, f[i]? = some a → g[i]? = some b → body i = some (if a = b then .inl ((i + 1 : Nat) : Int) else .inr (.inr false)))
    (hend : body (f.length : Nat) = some (.inr (.inl ()))) : ∀ (m k : Nat), f.length - k = m → k ≤ f.length → lp body (k : Int) = some (if f.drop k = g.drop k then .inl () else .inr false)
  | 0, k, hm, hk => by
    have : k = f.length := by omega
    subst this
    rw [List.drop_length, he, List.drop_length, if_pos rfl]
    rw [← he]
    exact cQ hend
  | m + 1, k, hm, hk => by
    have h1 : k < f.length := by omega
    have h2 : k < g.length := by omega
    have hbk := hb k _ _ (List.getElem?_eq_getElem h1) (List.getElem?_eq_getElem h2)
    have e1 : f.drop k = f[k] :: f.drop (k + 1) := List.drop_eq_getElem_cons h1
    have e2 : g.drop k = g[k] :: g.drop (k + 1) := List.drop_eq_getElem_cons h2
    have hiff : (f.drop k = g.drop k) ↔ (f[k] = g[k] ∧ f.drop (k + 1) = g.drop (k + 1)) := by rw [e1, e2, List.cons.injEq]
    by_cases h : f[k] = g[k]
    · rw [if_pos h] at hbk
      rw [fB hbk, TV he hb hend m (k + 1) (by omega) (by omega)]
      simp only [hiff, h, true_and]
    · rw [if_neg h] at hbk
      rw [cQ hbk]
      simp only [hiff, h, false_and, if_false]

theorem VD {α : Type} {f g : List α} (h : f.length ≠ g.length) : (!decide (((f.length : Nat) : Int) = ((g.length : Nat) : Int))) = true := by simp; omega

theorem HQ {α : Type} {f g : List α} (h : f.length = g.length) : (!decide (((f.length : Nat) : Int) = ((g.length : Nat) : Int))) = false := by simp [h]

theorem HU (a b : List aB) (hl : a.length ≤ 17592186044416) : tT a b = some (decide (a = b)) := by
  unfold tT fJ
  by_cases he : a.length = b.length
  · rw [HQ he, cond_false]
    unfold jG
    have := TV (f := a) (g := b) (body := fun s => fC a b (a.length : Nat) s) he ?_ ?_ a.length 0 rfl (Nat.zero_le _)
    · simp only [Int.natCast_zero, List.drop_zero] at this
      rw [this]
      by_cases h : a = b <;> simp [h, gI]
    · intro i x y hx hy
      obtain ⟨d1, d2, d3, d4⟩ := idx hx (by omega)
      obtain ⟨_, e2, e3, _⟩ := idx hy (by omega)
      simp only [fC, d1, cond_true, aJ d2, aJ e2, d3, e3, d4, veq]
      by_cases h : x = y <;> simp [h]
    · simp only [fC, iC, cond_false]
  · rw [VD he, cond_true]
    have : a ≠ b := fun h => he (by rw [h])
    simp [this]

theorem xZ (a b : List aB) (hl : a.length ≤ 17592186044416) : oG a b = some (decide (a = b)) := by
  unfold oG
  by_cases he : a.length = b.length
  · rw [HQ he, cond_false]
    unfold uY
    have := TV (f := a) (g := b) (body := fun s => oZ a b s) he ?_ ?_ a.length 0 rfl (Nat.zero_le _)
    · simp only [Int.natCast_zero, List.drop_zero] at this
      rw [this]
      by_cases h : a = b <;> simp [h, rT]
    · intro i x y hx hy
      obtain ⟨d1, d2, d3, d4⟩ := idx hx (by omega)
      obtain ⟨_, e2, e3, _⟩ := idx hy (by omega)
      simp only [oZ, d1, cond_true, aJ d2, aJ e2, d3, e3, d4, veq]
      by_cases h : x = y <;> simp [h]
    · simp only [oZ, iC, cond_false]
  · rw [VD he, cond_true]
    have : a ≠ b := fun h => he (by rw [h])
    simp [this]

structure EO {α : Type} (c : α → α → Int) : Prop where
  eq : ∀ a b, c a b = 0 ↔ a = b
  anti : ∀ a b, c a b < 0 ↔ 0 < c b a
  trans : ∀ a b d, c a b < 0 → c b d < 0 → c a d < 0

def nG (x y : Int) : Int := if x < y then -1 else if y < x then 1 else 0

theorem zM : EO nG where
  eq a b := by unfold nG; (repeat' split) <;> omega
  anti a b := by unfold nG; (repeat' split) <;> omega
  trans a b d := by unfold nG; (repeat' split) <;> omega

def iA {α : Type} [DecidableEq α] (c : α → α → Int) : List α → List α → Int
  | [], [] => 0
  | [], _ :: _ => -1
  | _ :: _, [] => 1
  | a :: r, b :: s => if a = b then iA c r s else c a b

theorem EO.list {α : Type} [DecidableEq α] {c : α → α → Int} (h : EO c) : EO (iA c) where
  eq := by
    intro a
    induction a with
    | nil => intro b; cases b <;> simp [iA]
    | cons x r ih =>
      intro b
      cases b with
      | nil => simp [iA]
      | cons y s =>
        unfold iA
        split
        · rename_i e; subst e; rw [ih]; simp
        · rename_i e
          have := h.eq x y
          constructor
          · intro h0; exact absurd (this.1 h0) e
          · intro h0; cases h0; exact absurd rfl e
  anti := by
    intro a
    induction a with
    | nil => intro b; cases b <;> simp [iA]
    | cons x r ih =>
      intro b
      cases b with
      | nil => simp [iA]
      | cons y s =>
        unfold iA
        by_cases e : x = y
        · subst e; simp only [if_true]; exact ih s
        · rw [if_neg e, if_neg (fun e' => e e'.symm)]; exact h.anti x y
  trans := by
    intro a
    induction a with
    | nil =>
      intro b d
      cases b <;> cases d <;> simp [iA]
    | cons x r ih =>
      intro b d
      cases b with
      | nil => simp [iA]
      | cons y s =>
        cases d with
        | nil => simp [iA]
        | cons z t =>
          unfold iA
          by_cases e1 : x = y
          · subst e1
            rw [if_pos rfl]
            by_cases e2 : x = z
            · subst e2; rw [if_pos rfl, if_pos rfl]; exact ih s t
            · rw [if_neg e2, if_neg e2]; exact fun _ h => h
          · rw [if_neg e1]
            by_cases e2 : y = z
            · have hz : ¬ x = z := fun e => e1 (e.trans e2.symm)
              intro h _
              rw [if_neg hz, ← e2]; exact h
            · rw [if_neg e2]
              intro h1 h2
              by_cases e3 : x = z
              · subst e3
                have h3 := (h.anti x y).1 h1
                omega
              · rw [if_neg e3]; exact h.trans x y z h1 h2

def xX (a b : UInt8) : Int := if a < b then -1 else if b < a then 1 else 0

theorem GP : EO xX where
  eq a b := by
    unfold xX
    constructor
    · intro h
      split at h
      · cases h
      · split at h
        · cases h
        · rename_i h1 h2
          rw [UInt8.lt_iff_toNat_lt] at h1 h2
          exact UInt8.toNat_inj.1 (by omega)
    · rintro rfl
      have : ¬ a < a := by rw [UInt8.lt_iff_toNat_lt]; omega
      simp [this]
  anti a b := by
    unfold xX
    simp only [UInt8.lt_iff_toNat_lt]
    (repeat' split) <;> omega
  trans a b d := by
    unfold xX
    simp only [UInt8.lt_iff_toNat_lt]
    (repeat' split) <;> omega

theorem zY : ∀ (a b : List UInt8), Go.Lib.compareBytes a b = iA xX a b
  | [], [] => rfl
  | [], _ :: _ => rfl
  | _ :: _, [] => rfl
  | a :: r, b :: s => by
    unfold Go.Lib.compareBytes iA
    rw [zY r s]
    by_cases e : a = b
    · subst e
      have : ¬ a < a := by rw [UInt8.lt_iff_toNat_lt]; omega
      simp [this]
    · rw [if_neg e]
      unfold xX
      have : ¬ (¬ a < b ∧ ¬ b < a) := by
        rintro ⟨h1, h2⟩
        rw [UInt8.lt_iff_toNat_lt] at h1 h2
        exact e (UInt8.toNat_inj.1 (by omega))
      by_cases h1 : a < b
      · simp [h1]
      · have h2 : b < a := Classical.byContradiction fun h2 => this ⟨h1, h2⟩
        simp [h1, h2]

def JU (a b : ByteArray) : Int := iA xX a.data.toList b.data.toList

theorem ZX (a b : ByteArray) : JN a b = JU a b := zY _ _

theorem data_inj {x y : ByteArray} (h : x.data.toList = y.data.toList) : x = y := by
  cases x; cases y
  congr 1
  exact Array.toList_inj.1 h

theorem CA : EO JU where
  eq a b := by unfold JU; rw [(GP.list).eq]; exact ⟨data_inj, fun h => by rw [h]⟩
  anti a b := (GP.list).anti _ _
  trans a b d := (GP.list).trans _ _ _

def vH (a b : aB) : Int := if a.Kind = b.Kind then (if a.Num = b.Num then JU a.Text b.Text else nG a.Num b.Num) else nG a.Kind b.Kind

theorem CM : EO vH where
  eq a b := by
    obtain ⟨a1, a2, a3⟩ := a
    obtain ⟨b1, b2, b3⟩ := b
    unfold vH
    simp only [aB.mk.injEq]
    by_cases h1 : a1 = b1
    · by_cases h2 : a2 = b2
      · simp [h1, h2, CA.eq]
      · simp [h1, h2, zM.eq]
    · simp [h1, zM.eq]
  anti a b := by
    unfold vH
    by_cases h1 : a.Kind = b.Kind
    · rw [if_pos h1, if_pos h1.symm]
      by_cases h2 : a.Num = b.Num
      · rw [if_pos h2, if_pos h2.symm]; exact CA.anti _ _
      · rw [if_neg h2, if_neg (fun h => h2 h.symm)]; exact zM.anti _ _
    · rw [if_neg h1, if_neg (fun h => h1 h.symm)]; exact zM.anti _ _
  trans a b d := by
    unfold vH
    intro h1 h2
    have lt : ∀ {x y : Int}, nG x y < 0 → x < y := fun {x y} h => by unfold nG at h; split at h <;> (try split at h) <;> omega
    have mk : ∀ {x y : Int}, x < y → nG x y < 0 := fun {x y} h => by unfold nG; rw [if_pos h]; omega
    by_cases e1 : a.Kind = b.Kind
    · rw [if_pos e1] at h1
      by_cases e2 : b.Kind = d.Kind
      · rw [if_pos e2] at h2
        rw [if_pos (e1.trans e2)]
        by_cases f1 : a.Num = b.Num
        · rw [if_pos f1] at h1
          by_cases f2 : b.Num = d.Num
          · rw [if_pos f2] at h2
            rw [if_pos (f1.trans f2)]
            exact CA.trans _ _ _ h1 h2
          · rw [if_neg f2] at h2
            rw [f1, if_neg f2]; exact h2
        · rw [if_neg f1] at h1
          have g1 := lt h1
          by_cases f2 : b.Num = d.Num
          · rw [← f2, if_neg f1]; exact h1
          · rw [if_neg f2] at h2
            have g2 := lt h2
            rw [if_neg (by omega)]
            exact mk (by omega)
      · rw [if_neg e2] at h2
        rw [e1, if_neg e2]; exact h2
    · rw [if_neg e1] at h1
      have g1 := lt h1
      by_cases e2 : b.Kind = d.Kind
      · rw [← e2, if_neg e1]; exact h1
      · rw [if_neg e2] at h2
        have g2 := lt h2
        rw [if_neg (by omega)]
        exact mk (by omega)

def hU (a b : List aB) : Int := iA vH a b

theorem pR : EO hU := CM.list

end Go.Abs
namespace Go.Abs
open Go
theorem VO (x y : Int) : nO x y = some (nG x y) := by
  unfold nO kD nG
  by_cases h1 : x < y
  · simp [h1]
  · by_cases h2 : y < x <;> simp [h1, h2]

theorem UY (x y : Int) : fU x y = some (nG x y) := by
  unfold fU kP nG
  by_cases h1 : x < y
  · simp [h1]
  · by_cases h2 : y < x <;> simp [h1, h2]

theorem yR {v : aB} (h : AJ v = true) : v.Kind = 1 ∧ v.Text = (⟨#[]⟩ : ByteArray) := by
  simp only [AJ, KN, Bool.and_eq_true, decide_eq_true_eq] at h; exact h

theorem wZ {v : aB} (h : AF v = true) : v.Kind = 2 ∧ v.Num = 0 ∧ v.Text.size ≤ 64 := by
  simp only [AF, Bool.and_eq_true, decide_eq_true_eq] at h; exact ⟨h.1.1, h.1.2, by omega⟩

theorem ES {v : aB} (h : qY v = true) : AJ v = true ∨ (AJ v = false ∧ AF v = true) := by
  unfold qY at h
  cases hn : AJ v
  · rw [hn] at h; exact .inr ⟨rfl, by simpa using h⟩
  · exact .inl rfl

theorem VN (a : ByteArray) : JU a a = 0 := (CA.eq a a).2 rfl

theorem AD (a : Int) : nG a a = 0 := (zM.eq a a).2 rfl

theorem VA {a b : aB} (ha : qY a = true) (hb : qY b = true) : pP a b = some (vH a b) := by
  unfold pP
  simp only [of_eq, Option.bind_some]
  rcases ES ha with h1 | ⟨h1, h1'⟩ <;> rcases ES hb with h2 | ⟨h2, h2'⟩
  · obtain ⟨k1, t1⟩ := yR h1
    obtain ⟨k2, t2⟩ := yR h2
    simp only [h1, h2, if_true, Bool.not_true, Bool.or_self, cond_false, UY, Option.bind_some]
    unfold vH
    rw [k1, k2, t1, t2, if_pos rfl, VN]
    by_cases hn : a.Num = b.Num
    · rw [if_pos hn, hn, AD]
    · rw [if_neg hn]
  · obtain ⟨k1, t1⟩ := yR h1
    obtain ⟨k2, n2, _⟩ := wZ h2'
    simp only [h1, h2, h2', if_true, Bool.false_eq_true, if_false, Bool.not_true, Bool.or_self, cond_false]
    unfold vH
    rw [k1, k2]; rfl
  · obtain ⟨k1, n1, _⟩ := wZ h1'
    obtain ⟨k2, t2⟩ := yR h2
    simp only [h1, h1', h2, if_true, Bool.false_eq_true, if_false, Bool.not_true, Bool.or_self, cond_false]
    unfold vH
    rw [k1, k2]; rfl
  · obtain ⟨k1, n1, _⟩ := wZ h1'
    obtain ⟨k2, n2, _⟩ := wZ h2'
    simp only [h1, h1', h2, h2', if_true, Bool.false_eq_true, if_false, Bool.not_true, Bool.or_self, cond_false]
    unfold vH mL jJ
    rw [k1, k2, n1, n2, if_pos rfl, if_pos rfl]
    simp [ZX]

theorem wS {r : List aB} (h : jV r = true) : r.length ≤ 8 ∧ ∀ v ∈ r, qY v = true := by
  simp only [jV, Bool.and_eq_true, decide_eq_true_eq, List.all_eq_true] at h; exact h

theorem OD {a b : List aB} {k : Nat} (hk : k = a.length ∨ k = b.length) (h1 : k ≤ a.length) (h2 : k ≤ b.length) : hU (a.drop k) (b.drop k) = nG a.length b.length := by
  rcases hk with rfl | rfl
  · rw [List.drop_length]
    by_cases h : a.length = b.length
    · rw [h, List.drop_length, AD]; rfl
    · rw [List.drop_eq_getElem_cons (by omega)]
      show (-1 : Int) = _
      unfold nG; rw [if_pos (by omega)]
  · rw [List.drop_length]
    by_cases h : a.length = b.length
    · rw [← h, List.drop_length, AD]; rfl
    · rw [List.drop_eq_getElem_cons (by omega)]
      show (1 : Int) = _
      unfold nG; rw [if_neg (by omega), if_pos (by omega)]

theorem RK {a b : List aB} (hl : a.length ≤ 8) (hlb : b.length ≤ 8) (n : Nat) (hn : n = min a.length b.length) : ∀ (m k : Nat), n - k = m → k ≤ n →
    ∃ x, lp (fun s : Int × Int => cJ (fun st y0 => (jU y0 st b).bind fun o => some (o.2, o.1)) (a.take n) (n : Nat) s.1 s.2) ((k : Int) - 1, (k : Int)) = some x ∧
      ((∃ sg, x = .inl sg ∧ hU (a.drop k) (b.drop k) = nG a.length b.length) ∨
        (∃ i : Nat, x = .inr ((i : Int), (i : Int)) ∧ i < a.length ∧ i < b.length ∧ hU (a.drop k) (b.drop k) = vH (a.getD i default) (b.getD i default)))
  | 0, k, hm, hk => by
    have : k = n := by omega
    subst this
    refine ⟨.inl ((k : Int) - 1), cQ ?_, .inl ⟨_, rfl, OD (by omega) (by omega) (by omega)⟩⟩
    show cJ _ _ _ _ _ = _
    simp only [cJ, iC, cond_false]
  | m + 1, k, hm, hk => by
    have h1 : k < a.length := by omega
    have h2 : k < b.length := by omega
    have ht : (a.take n)[k]? = some a[k] := by
      rw [List.getElem?_take_of_lt (by omega)]; exact List.getElem?_eq_getElem h1
    obtain ⟨d1, d2, d3, d4⟩ := idx ht (by simp; omega)
    have hlt : (a.take n).length = n := by simp; omega
    rw [hlt] at d1 d2
    obtain ⟨_, e2, e3, _⟩ := idx (List.getElem?_eq_getElem h2) (by omega)
    have hw : IntKind.i64.wrap ((k : Int) - 1 + 1) = (k : Int) := by rw [dB (by omega) (by omega)]; omega
    have hb : (fun s : Int × Int => cJ (fun st y0 => (jU y0 st b).bind fun o => some (o.2, o.1)) (a.take n) (n : Nat) s.1 s.2) ((k : Int) - 1, (k : Int)) =
        some (if a[k] = b[k] then .inl ((k : Int), ((k + 1 : Nat) : Int)) else .inr (.inr ((k : Int), (k : Int)))) := by
      show cJ _ _ _ _ _ = _
      simp only [cJ, d1, cond_true, hlt, aJ d2, d3, d4, jU, hw, aJ e2, e3, veq, Option.bind_some]
      by_cases h : a[k] = b[k] <;> simp [h]
    have ea : a.drop k = a[k] :: a.drop (k + 1) := List.drop_eq_getElem_cons h1
    have eb : b.drop k = b[k] :: b.drop (k + 1) := List.drop_eq_getElem_cons h2
    by_cases h : a[k] = b[k]
    · rw [if_pos h] at hb
      obtain ⟨x, e, hx⟩ := RK hl hlb n hn m (k + 1) (by omega) (by omega)
      have hc : hU (a.drop k) (b.drop k) = hU (a.drop (k + 1)) (b.drop (k + 1)) := by
        rw [ea, eb]; unfold hU; rw [iA, if_pos h]
      refine ⟨x, ?_, by rw [hc]; exact hx⟩
      rw [fB hb]
      rw [show ((k + 1 : Nat) : Int) - 1 = (k : Int) by omega] at e
      exact e
    · rw [if_neg h] at hb
      refine ⟨_, cQ hb, .inr ⟨k, rfl, h1, h2, ?_⟩⟩
      rw [ea, eb]; unfold hU; rw [iA, if_neg h]
      simp [List.getD_eq_getElem?_getD, h1, h2]

theorem WG (a b : List aB) : rZ a b = some (if jV a && jV b then hU a b else 0) := by
  unfold rZ
  rw [JM]
  simp only [Option.bind_some]
  cases ha : jV a
  · simp [cV]
  · simp only [Bool.not_true, Bool.not_false, cV, cond_true, JM, Option.bind_some, Bool.false_or]
    cases hb : jV b
    · simp
    · obtain ⟨la, ma⟩ := wS ha
      obtain ⟨lb, mb⟩ := wS hb
      have hif : (if ((List.length b : Nat) : Int) < ((List.length a : Nat) : Int) then ((List.length b : Nat) : Int) else ((List.length a : Nat) : Int)) = ((min a.length b.length : Nat) : Int) := by split <;> omega
      have hlt : (a.take (min a.length b.length)).length = min a.length b.length := by rw [List.length_take]; omega
      simp only [Bool.not_true, cond_false, hif, Int.toNat_natCast, sL, Option.bind_some, gW, gS, hlt, Bool.and_self, if_true]
      rw [aJ ⟨by omega, by omega⟩]
      obtain ⟨x, e, hx⟩ := RK (a := a) (b := b) la lb _ rfl _ 0 rfl (Nat.zero_le _)
      have e' : lp (fun s : Int × Int => cJ (fun st y0 => (jU y0 st b).bind fun o => some (o.2, o.1)) (a.take (min a.length b.length)) (min a.length b.length : Nat) s.1 s.2) ((-1 : Int), (0 : Int)) = some x := e
      rw [e']
      simp only [List.drop_zero] at hx
      rcases hx with ⟨sg, rfl, h⟩ | ⟨i, rfl, h1, h2, h⟩
      · simp [eX, VO, h]
      · have hi : decide ((i : Int) < 0) = false := by simp
        simp only [Option.bind_some, Sum.elim_inr, hi, cond_false, Int.toNat_natCast]
        rw [aJ ⟨by omega, by omega⟩, aJ ⟨by omega, by omega⟩]
        have g1 : a.getD i default ∈ a := by simp [List.getD_eq_getElem?_getD, h1]
        have g2 : b.getD i default ∈ b := by simp [List.getD_eq_getElem?_getD, h2]
        rw [VA (ma _ g1) (mb _ g2), h]
        simp only [Option.bind_some]

theorem YQ {s : ByteArray} {i : Nat} (h : i < s.data.toList.length) : bt s (i : Int) = ((s.data.toList[i]).toNat : Int) := by
  have h' : i < s.data.size := by simpa using h
  unfold bt
  simp only [Int.toNat_natCast, Array.getElem_toList]
  rw [Array.getD_eq_getD_getElem?, Array.getElem?_eq_getElem h']
  rfl

theorem OH {a b : aB} (ha : a.Text.size ≤ 64) (hb : b.Text.size ≤ 64) : ∀ (m k : Nat), min a.Text.size b.Text.size - k = m → k ≤ min a.Text.size b.Text.size →
    ∃ x, lp (fun s => iM a b s) (k : Int) = some x ∧
      ((x = .inl () ∧ iA xX (a.Text.data.toList.drop k) (b.Text.data.toList.drop k) = nG a.Text.size b.Text.size) ∨ (∃ v, x = .inr v ∧ iA xX (a.Text.data.toList.drop k) (b.Text.data.toList.drop k) = v))
  | 0, k, hm, hk => by
    have hsa : a.Text.data.toList.length = a.Text.size := by rw [Array.length_toList]; rfl
    have hsb : b.Text.data.toList.length = b.Text.size := by rw [Array.length_toList]; rfl
    refine ⟨.inl (), cQ ?_, .inl ⟨rfl, ?_⟩⟩
    · show iM a b _ = _
      have : ((decide ((k : Int) < ((ByteArray.size a.Text : Nat) : Int))) && (decide ((k : Int) < ((ByteArray.size b.Text : Nat) : Int)))) = false := by
        rw [Bool.and_eq_false_iff]
        simp only [decide_eq_false_iff_not]
        omega
      simp only [iM, this, cond_false]
    · by_cases h1 : a.Text.size ≤ k
      · rw [List.drop_eq_nil_of_le (by omega)]
        by_cases h2 : b.Text.size ≤ k
        · rw [List.drop_eq_nil_of_le (by omega)]
          have : a.Text.size = b.Text.size := by omega
          rw [this, AD]; rfl
        · rw [List.drop_eq_getElem_cons (by omega)]
          show (-1 : Int) = _
          unfold nG; rw [if_pos (by omega)]
      · have h2 : b.Text.size ≤ k := by omega
        rw [@List.drop_eq_nil_of_le _ b.Text.data.toList k (by omega), List.drop_eq_getElem_cons (by omega)]
        show (1 : Int) = _
        unfold nG; rw [if_neg (by omega), if_pos (by omega)]
  | m + 1, k, hm, hk => by
    have hsa : a.Text.data.toList.length = a.Text.size := by rw [Array.length_toList]; rfl
    have hsb : b.Text.data.toList.length = b.Text.size := by rw [Array.length_toList]; rfl
    have h1 : k < a.Text.data.toList.length := by omega
    have h2 : k < b.Text.data.toList.length := by omega
    have c1 : decide ((k : Int) < ((ByteArray.size a.Text : Nat) : Int)) = true := by simp; omega
    have c2 : decide ((k : Int) < ((ByteArray.size b.Text : Nat) : Int)) = true := by simp; omega
    have p1 : 0 ≤ (k : Int) ∧ (k : Int) < ((ByteArray.size a.Text : Nat) : Int) := ⟨by omega, by omega⟩
    have p2 : 0 ≤ (k : Int) ∧ (k : Int) < ((ByteArray.size b.Text : Nat) : Int) := ⟨by omega, by omega⟩
    have hw : IntKind.i64.wrap ((k : Int) + 1) = ((k + 1 : Nat) : Int) := by rw [dB (by omega) (by omega)]; omega
    have ea := List.drop_eq_getElem_cons h1
    have eb := List.drop_eq_getElem_cons h2
    have hb' : iM a b (k : Int) = some (if a.Text.data.toList[k] = b.Text.data.toList[k] then .inl ((k + 1 : Nat) : Int) else .inr (.inr (xX a.Text.data.toList[k] b.Text.data.toList[k]))) := by
      simp only [iM, c1, c2, Bool.and_self, cond_true, aJ p1, aJ p2, YQ h1, YQ h2, hw]
      generalize a.Text.data.toList[k] = x
      generalize b.Text.data.toList[k] = y
      by_cases e : x = y
      · subst e; simp
      · have e' : ¬ ((x.toNat : Int) = (y.toNat : Int)) := fun h => e (UInt8.toNat_inj.1 (by omega))
        simp only [e', decide_false, Bool.not_false, cond_true, if_neg e]
        unfold xX
        simp only [UInt8.lt_iff_toNat_lt]
        by_cases l : x.toNat < y.toNat
        · have : ((x.toNat : Int) < (y.toNat : Int)) := by omega
          simp [l]
        · have l2 : y.toNat < x.toNat := by
            rcases Nat.lt_or_ge y.toNat x.toNat with h | h
            · exact h
            · exact absurd (UInt8.toNat_inj.1 (by omega)) e
          simp [l, l2]
    by_cases e : a.Text.data.toList[k] = b.Text.data.toList[k]
    · rw [if_pos e] at hb'
      obtain ⟨x, hx1, hx2⟩ := OH ha hb m (k + 1) (by omega) (by omega)
      refine ⟨x, by rw [fB (show (fun s => iM a b s) (k : Int) = _ from hb')]; exact hx1, ?_⟩
      rw [ea, eb, iA, if_pos e]; exact hx2
    · rw [if_neg e] at hb'
      refine ⟨_, cQ (show (fun s => iM a b s) (k : Int) = _ from hb'), .inr ⟨_, rfl, ?_⟩⟩
      rw [ea, eb, iA, if_neg e]

theorem KZ {v : aB} (h : qY v = true) : v.Text.size ≤ 64 := by
  rcases ES h with h | ⟨_, h⟩
  · rw [(yR h).2]; decide
  · exact (wZ h).2.2

theorem KH {v : aB} (h : qY v = true) : v.Kind = 1 ∨ v.Kind = 2 := by
  rcases ES h with h | ⟨_, h⟩
  · exact .inl (yR h).1
  · exact .inr (wZ h).1

theorem NX {a b : aB} (ha : qY a = true) (hb : qY b = true) : pO a b = some (vH a b) := by
  unfold pO
  simp only [IB, ha, hb, Option.bind_some, Bool.not_true, Bool.not_false, cV, cond_true, Bool.or_self, cond_false]
  unfold vH
  by_cases hk : a.Kind = b.Kind
  · rw [if_pos hk]
    by_cases hn : a.Num = b.Num
    · rw [if_pos hn]
      simp only [hk, hn, decide_true, Bool.not_true, cond_false, rI]
      obtain ⟨x, e, hx⟩ := OH (KZ ha) (KZ hb) _ 0 rfl (Nat.zero_le _)
      simp only [Int.natCast_zero, List.drop_zero] at e hx
      rw [e]
      have ht : JU a.Text b.Text = iA xX a.Text.data.toList b.Text.data.toList := rfl
      rcases hx with ⟨rfl, h⟩ | ⟨v, rfl, h⟩
      · rw [ht, h]
        simp only [Option.bind_some, Sum.elim_inl, oO]
        unfold nG
        by_cases h1 : a.Text.size = b.Text.size
        · have h1' : ((a.Text.size : Nat) : Int) = ((b.Text.size : Nat) : Int) := by omega
          simp [h1']
        · have h1' : ¬ ((a.Text.size : Nat) : Int) = ((b.Text.size : Nat) : Int) := by omega
          by_cases h2 : ((a.Text.size : Nat) : Int) < ((b.Text.size : Nat) : Int)
          · simp only [h1', h2, decide_false, decide_true, Bool.not_false, cond_true, if_true]
          · have h3 : ((b.Text.size : Nat) : Int) < ((a.Text.size : Nat) : Int) := by omega
            simp only [h1', h2, h3, decide_false, Bool.not_false, cond_true, cond_false, if_true, if_false]
      · rw [ht, h]; rfl
    · rw [if_neg hn]
      simp only [hk, hn, decide_true, decide_false, Bool.not_true, Bool.not_false, cond_false, cond_true]
      unfold nG
      by_cases h1 : a.Num < b.Num
      · simp [h1]
      · have h2 : b.Num < a.Num := by omega
        simp [h1, h2]
  · rw [if_neg hk]
    simp only [hk, decide_false, Bool.not_false, cond_true]
    rcases KH ha with h1 | h1 <;> rcases KH hb with h2 | h2
    · exact absurd (h1.trans h2.symm) hk
    · rw [h1, h2]; rfl
    · rw [h1, h2]; rfl
    · exact absurd (h1.trans h2.symm) hk

theorem LJ {a b : List aB} (ha : jV a = true) (hb : jV b = true) : ∀ (m k : Nat), min a.length b.length - k = m → k ≤ min a.length b.length →
    ∃ x, lp (fun s => iL a b s) (k : Int) = some x ∧ ((x = .inl () ∧ hU (a.drop k) (b.drop k) = nG a.length b.length) ∨ (∃ v, x = .inr v ∧ hU (a.drop k) (b.drop k) = v))
  | 0, k, hm, hk => by
    refine ⟨.inl (), cQ ?_, .inl ⟨rfl, OD (by omega) (by omega) (by omega)⟩⟩
    show iL a b _ = _
    have : ((decide ((k : Int) < ((a.length : Nat) : Int))) && (decide ((k : Int) < ((b.length : Nat) : Int)))) = false := by
      rw [Bool.and_eq_false_iff]
      simp only [decide_eq_false_iff_not]
      omega
    simp only [iL, this, cond_false]
  | m + 1, k, hm, hk => by
    obtain ⟨la, ma⟩ := wS ha
    obtain ⟨lb, mb⟩ := wS hb
    have h1 : k < a.length := by omega
    have h2 : k < b.length := by omega
    obtain ⟨d1, d2, d3, d4⟩ := idx (List.getElem?_eq_getElem h1) (by omega)
    obtain ⟨e1, e2, e3, _⟩ := idx (List.getElem?_eq_getElem h2) (by omega)
    have ea := List.drop_eq_getElem_cons h1
    have eb := List.drop_eq_getElem_cons h2
    have hb' : iL a b (k : Int) = some (if a[k] = b[k] then .inl ((k + 1 : Nat) : Int) else .inr (.inr (vH a[k] b[k]))) := by
      simp only [iL, d1, e1, Bool.and_self, cond_true, aJ d2, aJ e2, d3, e3, d4, NX (ma _ (List.getElem_mem h1)) (mb _ (List.getElem_mem h2)), Option.bind_some]
      by_cases h : a[k] = b[k]
      · have := (CM.eq a[k] b[k]).2 h
        simp [h, (CM.eq b[k] b[k]).2 rfl]
      · have : ¬ vH a[k] b[k] = 0 := fun h' => h ((CM.eq _ _).1 h')
        simp [h, this]
    by_cases h : a[k] = b[k]
    · rw [if_pos h] at hb'
      obtain ⟨x, hx1, hx2⟩ := LJ ha hb m (k + 1) (by omega) (by omega)
      refine ⟨x, by rw [fB (show (fun s => iL a b s) (k : Int) = _ from hb')]; exact hx1, ?_⟩
      have hc : hU (a.drop k) (b.drop k) = hU (a.drop (k + 1)) (b.drop (k + 1)) := by
        rw [ea, eb]; unfold hU; rw [iA, if_pos h]
      rw [hc]; exact hx2
    · rw [if_neg h] at hb'
      refine ⟨_, cQ (show (fun s => iL a b s) (k : Int) = _ from hb'), .inr ⟨_, rfl, ?_⟩⟩
      rw [ea, eb]; unfold hU; rw [iA, if_neg h]

theorem DB (a b : List aB) (hla : a.length ≤ 17592186044416) (hlb : b.length ≤ 17592186044416) : nI a b = some (if jV a && jV b then hU a b else 0) := by
  unfold nI
  rw [CD a (by omega)]
  simp only [Option.bind_some]
  cases ha : jV a
  · simp [cV]
  · simp only [Bool.not_true, Bool.not_false, cV, cond_true, CD b (by omega), Option.bind_some, Bool.false_or]
    cases hb : jV b
    · simp
    · simp only [Bool.not_true, cond_false, rG, Bool.and_self, if_true]
      obtain ⟨x, e, hx⟩ := LJ ha hb _ 0 rfl (Nat.zero_le _)
      simp only [Int.natCast_zero, List.drop_zero] at e hx
      rw [e]
      rcases hx with ⟨rfl, h⟩ | ⟨v, rfl, h⟩
      · rw [h]
        simp only [Option.bind_some, Sum.elim_inl, oF]
        unfold nG
        by_cases h1 : a.length < b.length
        · simp [h1]
        · by_cases h2 : b.length < a.length <;> simp [h1, h2]
      · rw [h]; rfl

end Go.Abs
namespace Go.Abs
open Go
def jE (e : aI) : aM := ⟨e.At, e.Net⟩

def gA (r : List aB) (f : List aM) : List aI → List (List aB × List aM)
  | [] => [(r, f)]
  | e :: l => if e.Row = r then gA r (f ++ [jE e]) l else (r, f) :: gA e.Row [jE e] l

def groups : List aI → List (List aB × List aM)
  | [] => []
  | e :: l => gA e.Row [jE e] l

def itG {σ : Type} (y : σ → List aB → List aM → Option (σ × Bool)) : List (List aB × List aM) → σ → Option σ
  | [], s => some s
  | g :: gs, s => (y s g.1 g.2).bind fun x => if x.2 then itG y gs x.1 else some x.1

def okL (l : List aI) : Prop := l.length ≤ 3518437208783 ∧ ∀ e ∈ l, e.Row.length ≤ 4398046510976

theorem TW {r : List aB} (h : r.length ≤ 4398046510976) : wJ r = some r := by
  unfold wJ
  rw [aJ ⟨by omega, by omega, by omega⟩, aJ (by simp only [List.length_nil, Nat.zero_add]; omega)]
  rfl

theorem IQ {σ : Type} {y : σ → List aB → List aM → Option (σ × Bool)} {l : List aI} (hl : okL l) (row : List aB) (sg : σ) : ∀ (r : List aI) (k : Nat) (f : List aM), l.drop k = r → k ≤ l.length → f.length ≤ k →
    ∃ k' f', k ≤ k' ∧ k' ≤ l.length ∧ f'.length ≤ k' ∧ lp (fun s : σ × Int × List aM => jL y l row s.1 s.2.1 s.2.2) (sg, (k : Int), f) = some (sg, ((k' : Nat) : Int), f') ∧
      gA row f r = (row, f') :: groups (l.drop k') ∧ (∀ e r', r = e :: r' → e.Row = row → k < k')
  | [], k, f, hd, hk, hf => by
    have : k = l.length := by
      have := congrArg List.length hd
      simp only [List.length_drop, List.length_nil] at this; omega
    subst this
    refine ⟨l.length, f, Nat.le_refl _, Nat.le_refl _, hf, cQ ?_, by simp [gA, groups], fun e r' h => by cases h⟩
    show jL _ _ _ _ _ _ = _
    simp only [jL, iC, cV, cond_false, Option.bind_some, Bool.false_and]
    exact aJ (fun h => by cases h)
  | a :: r, k, f, hd, hk, hf => by
    obtain ⟨h1, h2⟩ := drop_cons hd
    have hlt : k < l.length := (List.getElem?_eq_some_iff.1 h1).1
    obtain ⟨hll, hlr⟩ := hl
    obtain ⟨d1, d2, d3, d4⟩ := idx h1 (by omega)
    have har := hlr a (List.mem_of_getElem? h1)
    have hb : (fun s : σ × Int × List aM => jL y l row s.1 s.2.1 s.2.2) (sg, (k : Int), f) = some (if a.Row = row then .inl (sg, ((k + 1 : Nat) : Int), f ++ [jE a]) else .inr (sg, (k : Int), f)) := by
      show jL _ _ _ _ _ _ = _
      simp only [jL, d1, d3, d4, cV, cond_true, HU a.Row row (by omega), Option.bind_some, Bool.true_and]
      rw [aJ (fun _ => d2)]
      by_cases e : a.Row = row
      · simp only [e, decide_true, cond_true, if_true]
        rw [aJ d2, aJ d2, aJ (by simp only [List.length_cons, List.length_nil]; omega)]
        rfl
      · simp [e]
    by_cases e : a.Row = row
    · rw [if_pos e] at hb
      obtain ⟨k', f', g1, g2, g3, g4, g5, _⟩ := IQ ⟨hll, hlr⟩ row sg r (k + 1) (f ++ [jE a]) h2 (by omega) (by simp; omega) (y := y)
      refine ⟨k', f', by omega, g2, g3, by rw [fB hb]; exact g4, by simp [gA, e, g5], fun _ _ _ _ => by omega⟩
    · rw [if_neg e] at hb
      refine ⟨k, f, Nat.le_refl _, hk, hf, cQ hb, ?_, fun b r' h hr => by cases h; exact absurd hr e⟩
      rw [hd]; simp [gA, e, groups]

theorem TL {σ : Type} {y : σ → List aB → List aM → Option (σ × Bool)} {l : List aI} (hl : okL l) : ∀ (m k : Nat) (sg s' : σ), l.length - k ≤ m → k ≤ l.length → itG y (groups (l.drop k)) sg = some s' →
    ∃ x, lp (fun s : σ × Int => iK y l s.1 s.2) (sg, (k : Int)) = some x ∧ Sum.elim id id x = s' := by
  have stop : ∀ (sg s' : σ), itG y (groups (l.drop l.length)) sg = some s' → ∃ x, lp (fun s : σ × Int => iK y l s.1 s.2) (sg, ((l.length : Nat) : Int)) = some x ∧ Sum.elim id id x = s' := by
    intro sg s' h
    rw [List.drop_length] at h
    simp only [groups, itG, Option.some.injEq] at h
    refine ⟨.inl sg, cQ ?_, h⟩
    show iK _ _ _ _ = _
    simp only [iK, iC, cond_false]
  intro m
  induction m with
  | zero =>
    intro k sg s' hm hk h
    have : k = l.length := by omega
    subst this; exact stop sg s' h
  | succ m ih =>
    intro k sg s' hm hk h
    by_cases he : k = l.length
    · subst he; exact stop sg s' h
    · have hlt : k < l.length := by omega
      have hd : l.drop k = l[k] :: l.drop (k + 1) := List.drop_eq_getElem_cons hlt
      obtain ⟨d1, d2, d3, d4⟩ := idx (List.getElem?_eq_getElem hlt) (by have := hl.1; omega)
      obtain ⟨k', f', g1, g2, g3, g4, g5, g6⟩ := IQ hl l[k].Row sg (l.drop k) k [] rfl hk (by simp) (y := y)
      have hk' := g6 _ _ hd rfl
      have hg : groups (l.drop k) = (l[k].Row, f') :: groups (l.drop k') := by
        rw [← g5, hd]; simp [groups, gA]
      rw [hg] at h
      simp only [itG] at h
      obtain ⟨x, hx, h⟩ := aZ h
      have hrow := hl.2 _ (List.getElem_mem hlt)
      have hb : (fun s : σ × Int => iK y l s.1 s.2) (sg, (k : Int)) = some (if x.2 then .inl (x.1, ((k' : Nat) : Int)) else .inr (.inr x.1)) := by
        show iK _ _ _ _ = _
        simp only [iK, d1, cond_true, aJ d2, d3, rH, g4, Option.bind_some, oL, TW hrow, hx]
        cases x.2 <;> simp
      cases hx2 : x.2
      · rw [hx2] at hb h
        simp only [Bool.false_eq_true, if_false, Option.some.injEq] at hb h
        exact ⟨_, cQ hb, h⟩
      · rw [hx2] at hb h
        simp only [if_true] at hb h
        obtain ⟨z, hz1, hz2⟩ := ih k' x.1 s' (by omega) g2 h
        exact ⟨z, by rw [fB hb]; exact hz1, hz2⟩

theorem ZJ {σ : Type} {y : σ → List aB → List aM → Option (σ × Bool)} {l : List aI} (hl : okL l) {s s' : σ} (h : itG y (groups l) s = some s') : pJ y l s = some s' := by
  unfold pJ qZ
  obtain ⟨x, h1, h2⟩ := TL hl l.length 0 s s' (by omega) (Nat.zero_le _) (by simpa using h)
  simp only [Int.natCast_zero] at h1
  rw [h1]
  cases x <;> simpa using h2

def ahd (last : Option (List aB)) (r : List aB) : Bool := match last with
  | none => true
  | some q => decide (hU q r < 0)

def vB (p : List aM → Bool) : Option (List aB) → List (List aB × List aM) → Bool
  | _, [] => true
  | last, g :: gs => (jV g.1 && ahd last g.1 && p g.2) && vB p (some g.1) gs

theorem QX {holds : List aM → Option Bool} {p : List aM → Bool} (hp : ∀ f, holds f = some (p f)) (c : List aI) (t : Bool) : ∀ (gs : List (List aB × List aM)) (last : List aB) (b : Bool), (b = true → jV last = true) →
    ∃ x, itG (fun st r f => rnd (fun (s : Bool × (List aB) × Bool) => oA holds c s.1 s.2.1 s.2.2 r f) st) gs (.inl (t, last, b)) = some x ∧
      (if vB p (if b then some last else none) gs then ∃ u, x = .inl (t, u) else ∃ u, x = .inr (false, u))
  | [], last, b, _ => ⟨_, rfl, by simp [vB]⟩
  | g :: gs, last, b, hb => by
    have hy : oA holds c t last b g.1 g.2 = some (if jV g.1 && ahd (if b then some last else none) g.1 && p g.2 then .inl (t, g.1, true) else .inr (false, last, b)) := by
      unfold oA
      simp only [JM, Option.bind_some, WG, hp]
      cases hm : jV g.1
      · simp [cV]
      · cases b
        · cases h2 : p g.2 <;> simp [cV, ahd, h2]
        · have hl := hb rfl
          by_cases h1 : hU last g.1 < 0
          · have h1' : ¬ (0 ≤ hU last g.1) := by omega
            cases h2 : p g.2 <;> simp [cV, ahd, h2, hl, h1, h1']
          · have h1' : 0 ≤ hU last g.1 := by omega
            simp [cV, ahd, hl, h1, h1']
    cases hc : (jV g.1 && ahd (if b then some last else none) g.1 && p g.2)
    · rw [hc] at hy
      simp only [itG, rnd, hy, Option.bind_some, vB, hc]
      exact ⟨.inr (false, last, b), by simp, by simp⟩
    · rw [hc] at hy
      simp only [itG, rnd, hy, Option.bind_some, vB, hc]
      have hm : jV g.1 = true := by simp only [Bool.and_eq_true] at hc; exact hc.1.1
      obtain ⟨x, h1, h2⟩ := QX hp c t gs g.1 true (fun _ => hm)
      refine ⟨x, ?_, ?_⟩
      · simpa [rnd] using h1
      · simpa using h2

theorem RI {l : List aI} (hl : okL l) {holds : List aM → Option Bool} {p : List aM → Bool} (hp : ∀ f, holds f = some (p f)) : sJ l holds = some (decide (l.length ≤ 4096) && vB p none (groups l)) := by
  unfold sJ
  by_cases h : l.length ≤ 4096
  · have h1 : decide ((4096 : Int) < ((l.length : Nat) : Int)) = false := by simp; omega
    rw [h1, cond_false]
    simp only [xI, Option.bind_some, wF]
    obtain ⟨x, e1, e2⟩ := QX hp l false (groups l) [] false (fun h => by cases h)
    rw [ZJ hl e1]
    simp only [Bool.false_eq_true, if_false] at e2
    simp only [h, decide_true, Bool.true_and]
    cases hc : vB p none (groups l)
    · rw [hc] at e2
      simp only [Bool.false_eq_true, if_false] at e2
      obtain ⟨u, rfl⟩ := e2
      rfl
    · rw [hc] at e2
      simp only [if_true] at e2
      obtain ⟨u, rfl⟩ := e2
      rfl
  · have h1 : decide ((4096 : Int) < ((l.length : Nat) : Int)) = true := by simp; omega
    rw [h1, cond_true]
    simp [h]

def lK (l : List aI) : Bool := decide (l.length ≤ 4096) && vB mG none (groups l)

theorem aAe {l : List aI} (hl : okL l) : vV l = some (lK l) := by
  unfold vV
  rw [RI hl (p := mG) (fun f => ND f)]; rfl

def KF (f : List aM) : Bool := mG f && decide (0 ≤ sW f)

def pK (l : List aI) : Bool := decide (l.length ≤ 4096) && vB KF none (groups l)

theorem VJ {l : List aI} (hl : okL l) : tC l = some (pK l) := by
  unfold tC
  rw [RI hl (p := KF) (fun f => by
    unfold qV KF
    rw [ND]
    cases h : mG f <;> simp [cV, WQ, h])]
  rfl

def nS (r : List aB) (f : List aM) : List aI := f.map fun j => ⟨r, j.At, j.Net⟩

def flat (gs : List (List aB × List aM)) : List aI := gs.flatMap fun g => nS g.1 g.2

theorem KC : ∀ (l : List aI) (r : List aB) (f : List aM), flat (gA r f l) = nS r f ++ l
  | [], r, f => by simp [gA, flat]
  | e :: l, r, f => by
    unfold gA
    split
    · rename_i h
      rw [KC l r]
      simp [nS, jE, ← h]
    · have := KC l e.Row [jE e]
      simp only [flat, List.flatMap_cons] at this ⊢
      rw [this]
      simp [nS, jE]

theorem uF (l : List aI) : flat (groups l) = l := by
  cases l with
  | nil => rfl
  | cons e l => unfold groups; rw [KC]; simp [nS, jE]

theorem PF {r : List aB} : ∀ {l : List aI} {f : List aM} {g : List aB × List aM}, g ∈ gA r f l → f ≠ [] → g.2 ≠ [] ∧ (g.1 = r ∨ ∃ e ∈ l, g.1 = e.Row)
  | [], f, g, h, hf => by simp only [gA, List.mem_singleton] at h; subst h; exact ⟨hf, .inl rfl⟩
  | e :: l, f, g, h, hf => by
    unfold gA at h
    split at h
    · obtain ⟨h1, h2⟩ := PF h (by simp)
      exact ⟨h1, h2.imp id fun ⟨x, hx, hx'⟩ => ⟨x, by simp [hx], hx'⟩⟩
    · rcases List.mem_cons.1 h with rfl | h
      · exact ⟨hf, .inl rfl⟩
      · obtain ⟨h1, h2⟩ := PF (r := e.Row) h (by simp)
        refine ⟨h1, .inr ?_⟩
        rcases h2 with h2 | ⟨x, hx, hx'⟩
        · exact ⟨e, by simp, h2⟩
        · exact ⟨x, by simp [hx], hx'⟩

theorem BX {l : List aI} {g : List aB × List aM} (h : g ∈ groups l) : g.2 ≠ [] ∧ ∃ e ∈ l, g.1 = e.Row := by
  cases l with
  | nil => simp [groups] at h
  | cons e l =>
    obtain ⟨h1, h2⟩ := PF h (by simp)
    refine ⟨h1, ?_⟩
    rcases h2 with h2 | ⟨x, hx, hx'⟩
    · exact ⟨e, by simp, h2⟩
    · exact ⟨x, by simp [hx], hx'⟩

end Go.Abs
namespace Go.Abs
open Go
def dR (l : List aI) (r : List aB) : List aM := (l.filter fun e => decide (e.Row = r)).map jE

theorem AU (a b : List aI) (r : List aB) : dR (a ++ b) r = dR a r ++ dR b r := by simp [dR]

theorem LU (q : List aB) (f : List aM) (r : List aB) : dR (nS q f) r = if q = r then f else [] := by
  induction f with
  | nil => simp [dR, nS]
  | cons j f ih =>
    have h1 : nS q (j :: f) = [⟨q, j.At, j.Net⟩] ++ nS q f := rfl
    rw [h1, AU, ih]
    by_cases h : q = r <;> simp [dR, jE, h]

def look : List (List aB × List aM) → List aB → List aM
  | [], _ => []
  | g :: gs, r => if g.1 = r then g.2 else look gs r

theorem zS (g : List aB × List aM) (gs : List (List aB × List aM)) (r : List aB) : look (g :: gs) r = if g.1 = r then g.2 else look gs r := rfl

abbrev ltG (a b : List aB × List aM) : Prop := hU a.1 b.1 < 0

abbrev DQ (gs : List (List aB × List aM)) : Prop := gs.Pairwise ltG

theorem vG {a : List aB} : ¬ hU a a < 0 := by rw [(pR.eq a a).2 rfl]; omega

theorem KR : ∀ {gs : List (List aB × List aM)} {r : List aB}, (∀ g ∈ gs, g.1 ≠ r) → look gs r = []
  | [], _, _ => rfl
  | g :: gs, r, h => by
    rw [zS]
    rw [if_neg (h g (by simp))]
    exact KR fun q hq => h q (by simp [hq])

theorem HL (gs : List (List aB × List aM)) (r : List aB) : (look gs r = [] ∧ ∀ g ∈ gs, g.1 ≠ r) ∨ ∃ g ∈ gs, g.1 = r ∧ look gs r = g.2 := by
  induction gs with
  | nil => exact .inl ⟨rfl, by simp⟩
  | cons g gs ih =>
    rw [zS]
    by_cases h : g.1 = r
    · rw [if_pos h]; exact .inr ⟨g, by simp, h, rfl⟩
    · rw [if_neg h]
      rcases ih with ⟨h1, h2⟩ | ⟨q, hq, h1, h2⟩
      · refine .inl ⟨h1, fun q hq => ?_⟩
        rcases List.mem_cons.1 hq with rfl | hq
        · exact h
        · exact h2 q hq
      · exact .inr ⟨q, by simp [hq], h1, h2⟩

theorem FY {gs : List (List aB × List aM)} (hs : DQ gs) {g : List aB × List aM} (hg : g ∈ gs) : look gs g.1 = g.2 := by
  induction gs with
  | nil => simp at hg
  | cons q gs ih =>
    have hs' := List.pairwise_cons.1 hs
    rw [zS]
    rcases List.mem_cons.1 hg with rfl | hg
    · rw [if_pos rfl]
    · rw [if_neg (fun e => by have := hs'.1 g hg; simp only [ltG, e] at this; exact vG this)]
      exact ih hs'.2 hg

theorem KW (g : List aB × List aM) (gs : List (List aB × List aM)) : flat (g :: gs) = nS g.1 g.2 ++ flat gs := rfl

theorem EJ : ∀ {gs : List (List aB × List aM)}, DQ gs → ∀ r, dR (flat gs) r = look gs r
  | [], _, r => rfl
  | g :: gs, hs, r => by
    have hs' := List.pairwise_cons.1 hs
    rw [KW, AU, LU, EJ hs'.2, zS]
    by_cases h : g.1 = r
    · rw [if_pos h, if_pos h, KR, List.append_nil]
      intro q hq e
      have := hs'.1 q hq
      simp only [ltG, h, e] at this; exact vG this
    · rw [if_neg h, if_neg h]; rfl

theorem vN {p : List aM → Bool} : ∀ {gs : List (List aB × List aM)} {last : Option (List aB)}, vB p last gs = true ↔ (∀ g ∈ gs, jV g.1 = true ∧ p g.2 = true) ∧ DQ gs ∧ (∀ q, last = some q → ∀ g ∈ gs, hU q g.1 < 0)
  | [], last => by simp [vB]
  | g :: gs, last => by
    unfold vB
    simp only [Bool.and_eq_true, vN (gs := gs), List.mem_cons, List.pairwise_cons]
    constructor
    · rintro ⟨⟨⟨h1, h2⟩, h3⟩, h4, h5, h6⟩
      refine ⟨?_, ⟨fun q hq => h6 _ rfl q hq, h5⟩, ?_⟩
      · rintro q (rfl | hq)
        · exact ⟨h1, h3⟩
        · exact h4 q hq
      · rintro q rfl x (rfl | hx)
        · simpa [ahd] using h2
        · simp only [ahd, decide_eq_true_eq] at h2
          exact pR.trans _ _ _ h2 (h6 _ rfl x hx)
    · rintro ⟨h1, ⟨h2, h3⟩, h4⟩
      refine ⟨⟨⟨(h1 g (.inl rfl)).1, ?_⟩, (h1 g (.inl rfl)).2⟩, fun q hq => h1 q (.inr hq), h3, ?_⟩
      · unfold ahd
        split
        · rfl
        · exact decide_eq_true (h4 _ rfl g (.inl rfl))
      · rintro q hq x hx
        cases hq
        exact h2 x hx

theorem mJ {l : List aI} (h : lK l = true) : l.length ≤ 4096 ∧ (∀ g ∈ groups l, jV g.1 = true ∧ mG g.2 = true) ∧ DQ (groups l) := by
  simp only [lK, Bool.and_eq_true, decide_eq_true_eq] at h
  obtain ⟨h1, h2, _⟩ := vN.1 h.2
  exact ⟨h.1, h1, h2⟩

theorem UE {l : List aI} (h : lK l = true) (r : List aB) : mG (look (groups l) r) = true := by
  rcases HL (groups l) r with ⟨h1, _⟩ | ⟨g, hg, _, h1⟩
  · rw [h1]; exact aAa
  · rw [h1]; exact ((mJ h).2.1 g hg).2

theorem vX {l : List aI} (h : DQ (groups l)) (r : List aB) : look (groups l) r = dR l r := by
  rw [← EJ h, uF]

theorem RF (r : List aB) (f : List aM) (e : aI) (l : List aI) : gA r f (e :: l) = if e.Row = r then gA r (f ++ [jE e]) l else (r, f) :: gA e.Row [jE e] l := rfl

theorem UZ {l : List aI} (hl : okL l) {g : List aB × List aM} (hg : g ∈ groups l) : g.1.length ≤ 4398046510976 := by
  obtain ⟨_, e, he, h⟩ := BX hg
  rw [h]; exact hl.2 e he

theorem xY : ∀ (l : List aI) (r : List aB) (f : List aM), (gA r f l).length ≤ l.length + 1
  | [], _, _ => by simp [gA]
  | e :: l, r, f => by
    rw [RF]
    split
    · have := xY l r (f ++ [jE e]); simp only [List.length_cons]; omega
    · have := xY l e.Row [jE e]; simp only [List.length_cons]; omega

theorem IE (l : List aI) : (groups l).length ≤ l.length := by
  cases l with
  | nil => simp [groups]
  | cons e l => exact xY l e.Row [jE e]

end Go.Abs
namespace Go.Abs
open Go
abbrev leE (x y : aI) : Prop := hU x.Row y.Row < 0 ∨ (x.Row = y.Row ∧ x.At ≤ y.At)

theorem NT : ∀ {l : List aI} {r : List aB} {f : List aM}, Srt leE l → (∀ e ∈ l, e.Row = r ∨ hU r e.Row < 0) → DQ (gA r f l) ∧ ∀ g ∈ gA r f l, g.1 = r ∨ hU r g.1 < 0
  | [], r, f, _, _ => by simp [gA]
  | e :: l, r, f, hs, hr => by
    have hs' := List.pairwise_cons.1 hs
    rw [RF]
    by_cases h : e.Row = r
    · rw [if_pos h]
      exact NT hs'.2 (fun x hx => hr x (by simp [hx]))
    · rw [if_neg h]
      have hlt : hU r e.Row < 0 := (hr e (by simp)).resolve_left h
      obtain ⟨h1, h2⟩ := NT (r := e.Row) (f := [jE e]) hs'.2 (fun x hx => by
        rcases hs'.1 x hx with h | ⟨h, _⟩
        · exact .inr h
        · exact .inl h.symm)
      have key : ∀ g ∈ gA e.Row [jE e] l, hU r g.1 < 0 := fun g hg => by
        rcases h2 g hg with h | h
        · rw [h]; exact hlt
        · exact pR.trans _ _ _ hlt h
      refine ⟨List.pairwise_cons.2 ⟨key, h1⟩, ?_⟩
      intro g hg
      rcases List.mem_cons.1 hg with rfl | hg
      · exact .inl rfl
      · exact .inr (key g hg)

theorem CB {l : List aI} (hs : Srt leE l) : DQ (groups l) := by
  cases l with
  | nil => exact List.Pairwise.nil
  | cons e l =>
    have hs' := List.pairwise_cons.1 hs
    exact (NT hs'.2 (fun x hx => by
      rcases hs'.1 x hx with h | ⟨h, _⟩
      · exact .inr h
      · exact .inl h.symm)).1

abbrev DP (rs : List (List aB)) : Prop := rs.Pairwise fun a b => hU a b < 0

def pV (r : List aB) : List (List aB) → List (List aB)
  | [] => [r]
  | x :: xs => if hU x r < 0 then x :: pV r xs else if x = r then x :: xs else r :: x :: xs

def rowsOf (l : List aI) : List (List aB) := l.foldl (fun rs e => pV e.Row rs) []

theorem BM {r x : List aB} : ∀ {rs : List (List aB)}, x ∈ pV r rs ↔ x = r ∨ x ∈ rs
  | [] => by simp [pV]
  | y :: ys => by
    unfold pV
    split
    · simp only [List.mem_cons, BM (rs := ys)]
      constructor
      · rintro (h | h | h)
        · exact .inr (.inl h)
        · exact .inl h
        · exact .inr (.inr h)
      · rintro (h | h | h)
        · exact .inr (.inl h)
        · exact .inl h
        · exact .inr (.inr h)
    · split
      · rename_i h; subst h; simp
      · simp

theorem MY {r : List aB} : ∀ {rs : List (List aB)}, DP rs → DP (pV r rs)
  | [], _ => by simp [pV]
  | y :: ys, hs => by
    have hs' := List.pairwise_cons.1 hs
    unfold pV
    split
    · rename_i h
      refine List.pairwise_cons.2 ⟨fun z hz => ?_, MY hs'.2⟩
      rcases BM.1 hz with rfl | hz
      · exact h
      · exact hs'.1 z hz
    · rename_i h
      split
      · exact hs
      · rename_i hne
        have hlt : hU r y < 0 := by
          have h0 : hU y r ≠ 0 := fun e => hne ((pR.eq _ _).1 e)
          exact (pR.anti _ _).2 (by omega)
        refine List.pairwise_cons.2 ⟨fun z hz => ?_, hs⟩
        rcases List.mem_cons.1 hz with rfl | hz
        · exact hlt
        · exact pR.trans _ _ _ hlt (hs'.1 z hz)

theorem DH : ∀ (l : List aI) (rs : List (List aB)), DP rs → DP (l.foldl (fun rs e => pV e.Row rs) rs) ∧ ∀ x, x ∈ l.foldl (fun rs e => pV e.Row rs) rs ↔ x ∈ rs ∨ ∃ e ∈ l, e.Row = x
  | [], rs, hs => ⟨hs, by simp⟩
  | e :: l, rs, hs => by
    obtain ⟨h1, h2⟩ := DH l (pV e.Row rs) (MY hs)
    refine ⟨h1, fun x => ?_⟩
    simp only [List.foldl_cons]
    rw [h2 x, BM]
    simp only [List.mem_cons, exists_eq_or_imp]
    constructor
    · rintro ((h | h) | h)
      · exact .inr (.inl h.symm)
      · exact .inl h
      · exact .inr (.inr h)
    · rintro (h | h | h)
      · exact .inl (.inr h)
      · exact .inl (.inl h.symm)
      · exact .inr h

theorem RY (l : List aI) : DP (rowsOf l) := (DH l [] List.Pairwise.nil).1

theorem BV {l : List aI} {x : List aB} : x ∈ rowsOf l ↔ ∃ e ∈ l, e.Row = x := by
  have := (DH l [] List.Pairwise.nil).2 x
  simpa [rowsOf] using this

theorem NP : ∀ {a b : List (List aB)}, DP a → DP b → (∀ x, x ∈ a ↔ x ∈ b) → a = b
  | [], [], _, _, _ => rfl
  | [], y :: ys, _, _, h => absurd ((h y).2 (by simp)) (by simp)
  | x :: xs, [], _, _, h => absurd ((h x).1 (by simp)) (by simp)
  | x :: xs, y :: ys, ha, hb, h => by
    have ha' := List.pairwise_cons.1 ha
    have hb' := List.pairwise_cons.1 hb
    have e : x = y := by
      rcases List.mem_cons.1 ((h x).1 (by simp)) with h1 | h1
      · exact h1
      · rcases List.mem_cons.1 ((h y).2 (by simp)) with h2 | h2
        · exact h2.symm
        · exact absurd (pR.trans _ _ _ (hb'.1 x h1) (ha'.1 y h2)) vG
    subst e
    rw [NP ha'.2 hb'.2 fun z => ?_]
    constructor
    · intro hz
      rcases List.mem_cons.1 ((h z).1 (by simp [hz])) with h1 | h1
      · subst h1; exact absurd (ha'.1 z hz) vG
      · exact h1
    · intro hz
      rcases List.mem_cons.1 ((h z).2 (by simp [hz])) with h1 | h1
      · subst h1; exact absurd (hb'.1 z hz) vG
      · exact h1

def SQ (l : List aI) : List (List aB × List aM) := (rowsOf l).map fun r => (r, dR l r)

theorem QT {l : List aI} {r : List aB} (h : ∀ e ∈ l, e.Row ≠ r) : dR l r = [] := by
  unfold dR
  rw [List.map_eq_nil_iff, List.filter_eq_nil_iff]
  intro e he
  simpa using h e he

theorem PN {l l' : List aI} (hp : l'.Perm l) (hs : Srt leE l') : (groups l').map (·.1) = rowsOf l := by
  refine NP ?_ (RY l) fun x => ?_
  · rw [DP, List.pairwise_map]; exact CB hs
  · rw [BV]
    constructor
    · intro h
      obtain ⟨g, hg, rfl⟩ := List.mem_map.1 h
      obtain ⟨_, e, he, h1⟩ := BX hg
      exact ⟨e, hp.mem_iff.1 he, h1.symm⟩
    · rintro ⟨e, he, rfl⟩
      have he' : e ∈ flat (groups l') := by rw [uF]; exact hp.mem_iff.2 he
      obtain ⟨g, hg, h1⟩ := List.mem_flatMap.1 he'
      obtain ⟨j, _, rfl⟩ := List.mem_map.1 h1
      exact List.mem_map.2 ⟨g, hg, rfl⟩

end Go.Abs
namespace Go.Abs
open Go
def vL : aB := ⟨1, 1, ByteArray.empty⟩

end Go.Abs
namespace Go.Abs
open Go
theorem yP {l : List aI} (hm : lK l = true) {e : aI} (he : e ∈ l) : jV e.Row = true ∧ -2 < e.At ∧ e.At < 1125899906842624 ∧ e.Net ≠ 0 ∧ e.Net ≤ 1048576 ∧ -1048576 ≤ e.Net := by
  obtain ⟨_, h2, _⟩ := mJ hm
  have he' : e ∈ flat (groups l) := by rw [uF]; exact he
  obtain ⟨g, hg, h1⟩ := List.mem_flatMap.1 he'
  obtain ⟨j, hj, rfl⟩ := List.mem_map.1 h1
  obtain ⟨a, b⟩ := h2 g hg
  exact ⟨a, (qC.1 b).2.above j hj⟩

theorem wH {l : List aI} (hm : lK l = true) (r : List aB) : mG (dR l r) = true := by
  rw [← vX (mJ hm).2.2]; exact UE hm r

end Go.Abs
namespace Go.Abs
open Go
theorem AN {l : List aI} (hl : okL l) (hn : l.length ≤ 1099511627776) {r : List aB} : nL l r = some (dR l r) := by
  unfold nL tU
  rw [qS (l := l) (body := fun s : List aM × Int => lM l r s.1 s.2) (fun o i => (o, i)) (fun o t => o ++ dR t r) (fun o t => o.length + t.length ≤ 1099511627776) [] ?_ ?_ (by simpa using hn)]
  · rfl
  · intro i a t o ha hi
    left
    obtain ⟨d1, d2, d3, d4⟩ := idx ha (by omega)
    simp only [List.length_cons] at hi
    have hr := hl.2 a (List.mem_of_getElem? ha)
    have hb : lM l r o (i : Int) = some (.inl (if a.Row = r then o ++ [jE a] else o, ((i + 1 : Nat) : Int))) := by
      simp only [lM, qL, d1, cond_true, aJ d2, d3, d4, xZ a.Row r (by omega), Option.bind_some]
      by_cases e : a.Row = r
      · simp only [e, decide_true, cond_true, if_true]
        rw [aJ (by simp only [List.length_cons, List.length_nil]; omega)]; rfl
      · simp [e]
    refine ⟨_, hb, ?_, ?_⟩
    · split
      · simp; omega
      · omega
    · by_cases e : a.Row = r <;> simp [dR, e]
  · intro o _
    show lM _ _ _ _ = _
    simp only [lM, iC, cond_false]
    simp [dR]

theorem GD (r : List aB) : ∀ rs : List (List aB), (pV r rs).length ≤ rs.length + 1
  | [] => by simp [pV]
  | x :: xs => by
    unfold pV
    split
    · simp only [List.length_cons]; have := GD r xs; omega
    · split <;> simp

def uE (r : List aB) : List (List aB) → Nat
  | [] => 0
  | x :: xs => if hU x r < 0 then uE r xs + 1 else 0

theorem RA (r : List aB) : ∀ rs, uE r rs ≤ rs.length
  | [] => by simp [uE]
  | x :: xs => by unfold uE; split <;> simp [RA r xs]

theorem ML (r : List aB) : ∀ rs, pV r rs = if rs[uE r rs]? = some r then rs else rs.take (uE r rs) ++ [r] ++ rs.drop (uE r rs)
  | [] => by simp [pV]
  | x :: xs => by
    unfold pV uE
    by_cases h : hU x r < 0
    · rw [if_pos h, if_pos h, ML r xs]
      simp only [List.getElem?_cons_succ, List.take_succ_cons, List.drop_succ_cons]
      split <;> simp
    · rw [if_neg h, if_neg h]
      by_cases e : x = r <;> simp [e]

theorem JA {l : List aI} {rs : List (List aB)} {e : aI} {i : Nat} (hi : l[i]? = some e) (hl : okL l) (he : jV e.Row = true) (hr : ∀ x ∈ rs, jV x = true) (hn : rs.length ≤ 1099511627776) : ∀ (t : List (List aB)) (k : Nat), rs.drop k = t → k ≤ rs.length →
    lp (fun s : List (List aB) × Int => lH l (i : Int) s.1 s.2) (rs, (k : Int)) = some (rs, ((k + uE e.Row t : Nat) : Int))
  | [], k, hd, hk => by
    have : k = rs.length := by
      have := congrArg List.length hd
      simp only [List.length_drop, List.length_nil] at this; omega
    subst this
    refine cQ ?_
    show lH _ _ _ _ = _
    simp only [lH, iC, cV, cond_false, Option.bind_some, Bool.false_and]
    rw [aJ (fun h => by cases h), aJ (fun h => by cases h)]
    simp [uE]
  | x :: t, k, hd, hk => by
    obtain ⟨h1, h2⟩ := drop_cons hd
    have hlt := (List.getElem?_eq_some_iff.1 h1).1
    obtain ⟨d1, d2, d3, d4⟩ := idx h1 (by omega)
    obtain ⟨_, c2, c3, _⟩ := idx hi (by have := hl.1; omega)
    have hx := hr x (List.mem_of_getElem? h1)
    have hb : (fun s : List (List aB) × Int => lH l (i : Int) s.1 s.2) (rs, (k : Int)) = some (if hU x e.Row < 0 then .inl (rs, ((k + 1 : Nat) : Int)) else .inr (rs, (k : Int))) := by
      show lH _ _ _ _ = _
      simp only [lH, d1, cV, cond_true, d3, c3, d4, Bool.true_and]
      rw [aJ (fun _ => d2), aJ (fun _ => c2), DB x e.Row (by have := (wS hx).1; omega) (by have := (wS he).1; omega), hx, he]
      simp only [Bool.and_self, if_true, Option.bind_some]
      by_cases h : hU x e.Row < 0 <;> simp [h]
    unfold uE
    by_cases h : hU x e.Row < 0
    · rw [if_pos h] at hb
      rw [fB hb, JA hi hl he hr hn t (k + 1) h2 (by omega), if_pos h]
      congr 3; omega
    · rw [if_neg h] at hb
      rw [cQ hb, if_neg h]; rfl

theorem BP {l : List aI} (hl : okL l) (hm : ∀ e ∈ l, jV e.Row = true) (hn : l.length ≤ 1099511627776) : oD l = some (rowsOf l) := by
  unfold oD uX
  rw [qS (l := l) (body := fun s : List (List aB) × Int => mQ l s.1 s.2) (fun o i => (o, i)) (fun o t => t.foldl (fun rs e => pV e.Row rs) o) (fun o t => o.length + t.length ≤ 1099511627776 ∧ ∀ x ∈ o, jV x = true) [] ?_ ?_ ⟨by simpa using hn, by simp⟩]
  · rfl
  · rintro i e t rs hi ⟨h1, h2⟩
    left
    obtain ⟨d1, d2, d3, d4⟩ := idx hi (by omega)
    have he := hm e (List.mem_of_getElem? hi)
    simp only [List.length_cons] at h1
    refine ⟨pV e.Row rs, ?_, ⟨by have := GD e.Row rs; omega, fun x hx => by
      rcases BM.1 hx with rfl | h
      · exact he
      · exact h2 x h⟩, rfl⟩
    show mQ _ _ _ = _
    have hin := JA hi hl he h2 (by omega) rs 0 rfl (Nat.zero_le _)
    simp only [Int.natCast_zero, Nat.zero_add] at hin
    have hple := RA e.Row rs
    simp only [mQ, d1, cond_true, uS, hin, Option.bind_some, rY, rO, d3, d4]
    rw [ML]
    by_cases hp : uE e.Row rs < rs.length
    · have hx : rs[uE e.Row rs]? = some rs[uE e.Row rs] := List.getElem?_eq_getElem hp
      obtain ⟨f1, f2, f3, _⟩ := idx hx (by omega)
      have hrow := h2 _ (List.mem_of_getElem? hx)
      simp only [f1, f3, cV, cond_true, Bool.true_and]
      rw [aJ (fun _ => f2), aJ (fun _ => d2), xZ _ _ (by have := (wS hrow).1; omega)]
      by_cases hq : rs[uE e.Row rs] = e.Row
      · simp [hq, hx]
      · simp only [hq, decide_false, cond_false, Option.bind_some, hx, Option.some.injEq, if_false, Int.toNat_natCast]
        rw [aJ ⟨by omega, by omega⟩, aJ ⟨by simp; omega, by simp; omega⟩, aJ d2, aJ ⟨by simp; omega, by simp; omega⟩, aJ ⟨by omega, by omega⟩, aJ ⟨by simp; omega, by simp; omega⟩]
    · have hpe : uE e.Row rs = rs.length := by omega
      rw [hpe]
      simp only [iC, cV, cond_false, Option.bind_some, Bool.false_and]
      rw [aJ (fun h => by cases h), aJ (fun h => by cases h)]
      have hnone : rs[rs.length]? = none := by simp
      simp only [hnone, reduceCtorEq, if_false, Int.toNat_natCast]
      rw [aJ ⟨by omega, by omega⟩, aJ ⟨by simp; omega, by simp; omega⟩, aJ d2, aJ ⟨by simp; omega, by simp; omega⟩, aJ ⟨by omega, by omega⟩, aJ ⟨by simp; omega, by simp; omega⟩]
  · rintro rs ⟨_, _⟩
    show mQ _ _ _ = _
    simp only [mQ, iC, cond_false]
    rfl

theorem CS : ∀ (l : List aI) (rs : List (List aB)), (l.foldl (fun rs e => pV e.Row rs) rs).length ≤ rs.length + l.length
  | [], rs => by simp
  | e :: l, rs => by
    have := CS l (pV e.Row rs)
    have := GD e.Row rs
    simp only [List.foldl_cons, List.length_cons]; omega

theorem HN (l : List aI) : (rowsOf l).length ≤ l.length := by
  have := CS l []
  simpa [rowsOf] using this

end Go.Abs
namespace Go.Abs
open Go
abbrev ltE (x y : aI) : Prop := hU x.Row y.Row < 0 ∨ (x.Row = y.Row ∧ x.At < y.At)

theorem WM {x y z : aI} (h1 : ltE x y) (h2 : ltE y z) : ltE x z := by
  rcases h1 with h1 | ⟨h1, h1'⟩ <;> rcases h2 with h2 | ⟨h2, h2'⟩
  · exact .inl (pR.trans _ _ _ h1 h2)
  · exact .inl (h2 ▸ h1)
  · exact .inl (h1 ▸ h2)
  · exact .inr ⟨h1.trans h2, by omega⟩

theorem zT : ∀ {f : List aM} {last : Int}, sV last f ↔ (∀ j ∈ f, oK last j = false) ∧ f.Pairwise fun a b => a.At < b.At
  | [], last => by simp [sV]
  | j :: f, last => by
    rw [List.pairwise_cons]
    unfold sV
    rw [← lC]
    constructor
    · rintro ⟨h1, h2⟩
      have h3 := zT.1 h2
      have h4 := lC.1 h1
      refine ⟨fun k hk => ?_, fun k hk => (lC.1 (h3.1 k hk)).1, h3.2⟩
      rcases List.mem_cons.1 hk with rfl | hk
      · exact h1
      · have := lC.1 (h3.1 k hk)
        exact lC.2 (by omega)
    · rintro ⟨h1, h2, h3⟩
      refine ⟨h1 j (by simp), zT.2 ⟨fun k hk => ?_, h3⟩⟩
      have := lC.1 (h1 k (by simp [hk]))
      have := h2 k hk
      exact lC.2 (by omega)

theorem zC {l : List aI} : lK l = true ↔ l.length ≤ 4096 ∧ (∀ e ∈ l, jV e.Row = true ∧ oK (-2) (jE e) = false) ∧ l.Pairwise ltE ∧ ∀ r ∈ rowsOf l, (dR l r).length ≤ 1024 := by
  constructor
  · intro h
    obtain ⟨h1, h2, h3⟩ := mJ h
    refine ⟨h1, fun e he => ?_, ?_, fun r _ => (qC.1 (wH h r)).1⟩
    · obtain ⟨a, b, c, d, e1, e2⟩ := yP h he
      exact ⟨a, lC.2 ⟨b, c, d, e1, e2⟩⟩
    · rw [← uF l]
      unfold flat
      rw [List.flatMap, List.pairwise_flatten, List.pairwise_map]
      constructor
      · intro x hx
        obtain ⟨g, hg, rfl⟩ := List.mem_map.1 hx
        have := (zT.1 (qC.1 (h2 g hg).2).2).2
        rw [nS, List.pairwise_map]
        exact this.imp fun h => .inr ⟨rfl, h⟩
      · refine h3.imp fun {a b} h x hx y hy => ?_
        obtain ⟨j, _, rfl⟩ := List.mem_map.1 hx
        obtain ⟨k, _, rfl⟩ := List.mem_map.1 hy
        exact .inl h
  · rintro ⟨h1, h2, h3, h4⟩
    have hs : Srt leE l := h3.imp fun h => by
      rcases h with h | ⟨h, h'⟩
      · exact .inl h
      · exact .inr ⟨h, by omega⟩
    have hg := CB hs
    unfold lK
    rw [Bool.and_eq_true]
    refine ⟨by simpa using h1, vN.2 ⟨fun g hg' => ?_, hg, fun q hq => by cases hq⟩⟩
    obtain ⟨_, e, he, h5⟩ := BX hg'
    have hj : g.2 = dR l g.1 := by rw [← vX hg, FY hg hg']
    refine ⟨by rw [h5]; exact (h2 e he).1, ?_⟩
    rw [hj]
    refine qC.2 ⟨h4 _ (BV.2 ⟨e, he, h5.symm⟩), zT.2 ⟨fun j hj => ?_, ?_⟩⟩
    · obtain ⟨e, he, rfl⟩ := List.mem_map.1 hj
      exact (h2 e (List.mem_filter.1 he).1).2
    · unfold dR
      rw [List.pairwise_map, List.pairwise_filter]
      refine h3.imp fun {a b} h ha hb => ?_
      rcases h with h | ⟨_, h⟩
      · simp only [decide_eq_true_eq] at ha hb
        rw [ha, hb] at h
        exact absurd h vG
      · exact h

theorem YE {α : Type} {R : α → α → Prop} (ht : ∀ {x y z}, R x y → R y z → R x z) {l : List α} : l.Pairwise R ↔ ∀ (i : Nat) (a b : α), l[i]? = some a → l[i + 1]? = some b → R a b := by
  constructor
  · intro h i a b ha hb
    obtain ⟨h1, rfl⟩ := List.getElem?_eq_some_iff.1 ha
    obtain ⟨h2, rfl⟩ := List.getElem?_eq_some_iff.1 hb
    exact List.pairwise_iff_getElem.1 h i (i + 1) h1 h2 (by omega)
  · intro h
    refine List.pairwise_iff_getElem.2 fun i j hi hj hij => ?_
    obtain ⟨k, rfl⟩ : ∃ k, j = i + 1 + k := ⟨j - i - 1, by omega⟩
    clear hij
    induction k with
    | zero => exact h i _ _ (List.getElem?_eq_getElem hi) (List.getElem?_eq_getElem hj)
    | succ k ih => exact ht (ih (by omega)) (h (i + 1 + k) _ _ (List.getElem?_eq_getElem (by omega)) (List.getElem?_eq_getElem hj))

def JK (a b : List aB) : Int := if jV a && jV b then hU a b else 0

def AB (l : List aI) (i : Nat) : Bool := !(jV (l.getD i default).Row && !oK (-2) (jE (l.getD i default))) || (decide (i ≠ 0) && (decide (0 < JK (l.getD (i - 1) default).Row (l.getD i default).Row) || (decide (JK (l.getD (i - 1) default).Row (l.getD i default).Row = 0) && decide ((l.getD i default).At ≤ (l.getD (i - 1) default).At))))

theorem LB {l : List aI} : (List.range l.length).any (AB l) = false ↔ (∀ e ∈ l, jV e.Row = true ∧ oK (-2) (jE e) = false) ∧ l.Pairwise ltE := by
  rw [List.any_eq_false, YE (R := ltE) (fun h1 h2 => WM h1 h2)]
  constructor
  · intro h
    have h' : ∀ i, i < l.length → AB l i = false := fun i hi => by simpa using h i (List.mem_range.2 hi)
    refine ⟨fun e he => ?_, fun i a b ha hb => ?_⟩
    · obtain ⟨i, hi, rfl⟩ := List.mem_iff_getElem.1 he
      have := h' i hi
      unfold AB at this
      rw [Bool.or_eq_false_iff] at this
      have h1 := this.1
      simp only [List.getD_eq_getElem?_getD, List.getElem?_eq_getElem hi, Option.getD_some, Bool.not_eq_false', Bool.and_eq_true, Bool.not_eq_true'] at h1
      exact h1
    · obtain ⟨hi, rfl⟩ := List.getElem?_eq_some_iff.1 ha
      obtain ⟨hj, rfl⟩ := List.getElem?_eq_some_iff.1 hb
      have := h' (i + 1) hj
      have r1 := h' i hi
      unfold AB at this r1
      rw [Bool.or_eq_false_iff] at this r1
      have h1 := this.2
      have r2 := this.1
      have r1 := r1.1
      simp only [List.getD_eq_getElem?_getD, List.getElem?_eq_getElem hi, List.getElem?_eq_getElem hj, Option.getD_some, Bool.not_eq_false', Bool.and_eq_true, Bool.not_eq_true'] at r1 r2
      simp only [List.getD_eq_getElem?_getD, Nat.add_sub_cancel, List.getElem?_eq_getElem hi, List.getElem?_eq_getElem hj, Option.getD_some, ne_eq, Nat.add_eq_zero_iff, Nat.one_ne_zero, and_false, not_false_eq_true, decide_true, Bool.true_and, Bool.or_eq_false_iff, decide_eq_false_iff_not, Bool.and_eq_false_iff, JK, r1.1, r2.1, Bool.and_self, if_true] at h1
      by_cases hc : hU l[i].Row l[i + 1].Row = 0
      · refine .inr ⟨(pR.eq _ _).1 hc, ?_⟩
        rcases h1.2 with h | h
        · exact absurd hc h
        · omega
      · exact .inl (by omega)
  · rintro ⟨h1, h2⟩ i hi
    have hi := List.mem_range.1 hi
    unfold AB
    have ge : l.getD i default = l[i] := by simp [List.getD_eq_getElem?_getD, hi]
    have := h1 l[i] (List.getElem_mem hi)
    rw [ge, this.1, this.2]
    by_cases h0 : i = 0
    · simp [h0]
    · have hi' : i - 1 < l.length := by omega
      have ge' : l.getD (i - 1) default = l[i - 1] := by simp [List.getD_eq_getElem?_getD, hi']
      have h3 := h2 (i - 1) l[i - 1] l[i] (List.getElem?_eq_getElem hi') (by rw [show i - 1 + 1 = i by omega]; exact List.getElem?_eq_getElem hi)
      rw [ge']
      have r1 := (h1 l[i - 1] (List.getElem_mem hi')).1
      unfold JK
      rw [r1, this.1]
      rcases h3 with h3 | ⟨h3, h4⟩
      · have a : ¬ 0 < hU l[i - 1].Row l[i].Row := by omega
        have b : ¬ hU l[i - 1].Row l[i].Row = 0 := by omega
        simp [a, b]
      · have a : hU l[i - 1].Row l[i].Row = 0 := (pR.eq _ _).2 h3
        have b : ¬ l[i].At ≤ l[i - 1].At := by omega
        simp [a, b]

theorem IX {l : List aI} (hl : okL l) : sD l = some (lK l) := by
  unfold sD
  by_cases hn : l.length ≤ 4096
  · have h1 : decide ((4096 : Int) < ((l.length : Nat) : Int)) = false := by simp; omega
    rw [h1, cond_false]
    unfold vS
    have hlp := AT (body := fun s => nF l s) (l := List.range l.length) (fun i => i) (AB l) (.inr false) (.inl ()) ?_ ?_
    · rw [hlp]
      cases hb : (List.range l.length).any (AB l)
      · obtain ⟨h2, h3⟩ := LB.1 hb
        have hr := BP hl (fun e he => (h2 e he).1) (by omega)
        simp only [Bool.false_eq_true, if_false, Option.bind_some, Sum.elim_inl, sZ, hr, wE]
        have hrl := HN l
        rw [AT (l := rowsOf l) (fun i => i) (fun r => decide (1024 < (dR l r).length)) (.inr false) (.inl ()) ?_ ?_]
        · cases hc : (rowsOf l).any fun r => decide (1024 < (dR l r).length)
          · have : lK l = true := zC.2 ⟨hn, h2, h3, fun r hr => by
              have := List.any_eq_false.1 hc r hr
              simp only [decide_eq_true_eq] at this; omega⟩
            rw [this]; rfl
          · have : lK l = false := by
              rw [Bool.eq_false_iff]
              intro hm
              obtain ⟨r, hr, h4⟩ := List.any_eq_true.1 hc
              have := (zC.1 hm).2.2.2 r hr
              simp only [decide_eq_true_eq] at h4; omega
            rw [this]; rfl
        · intro i r hi
          obtain ⟨d1, d2, d3, d4⟩ := idx hi (by omega)
          show oH _ _ _ = _
          simp only [oH, d1, cond_true, aJ d2, d3, d4, AN hl (show l.length ≤ 1099511627776 by omega), Option.bind_some]
          by_cases h : 1024 < (dR l r).length
          · have h' : (1024 : Int) < (((dR l r).length : Nat) : Int) := by omega
            simp [h, h']
          · have h' : ¬ (1024 : Int) < (((dR l r).length : Nat) : Int) := by omega
            simp [h, h']
        · show oH _ _ _ = _
          simp only [oH, iC, cond_false]
      · have : lK l = false := by
          rw [Bool.eq_false_iff]
          intro hm
          obtain ⟨_, h2, h3, _⟩ := zC.1 hm
          have := LB.2 ⟨h2, h3⟩
          rw [this] at hb; cases hb
        rw [this]; rfl
    · intro i k hi
      obtain ⟨hi0, hk⟩ := List.getElem?_eq_some_iff.1 hi
      rw [List.getElem_range] at hk
      subst hk
      have hi1 : i < l.length := by simpa using hi0
      have hx := List.getElem?_eq_getElem hi1
      obtain ⟨d1, d2, d3, d4⟩ := idx hx (by omega)
      have hr := hl.2 _ (List.getElem_mem hi1)
      have ge : l.getD i default = l[i] := by simp [List.getD_eq_getElem?_getD, hi1]
      show nF _ _ = _
      simp only [nF, d1, cond_true, aJ d2, d3, CD l[i].Row (by omega), Option.bind_some]
      rw [aJ (fun _ => d2), aJ (fun _ => d2)]
      have hm : pS [⟨l[i].At, l[i].Net⟩] = some (!oK (-2) (jE l[i])) := by
        rw [LC]
        simp only [mG, chk, List.length_cons, List.length_nil, jE]
        cases oK (-2) ⟨l[i].At, l[i].Net⟩ <;> rfl
      rw [hm]
      unfold AB
      rw [ge]
      cases h2 : jV l[i].Row
      · simp [cV]
      · cases h3 : oK (-2) (jE l[i])
        · simp only [cV, Bool.not_true, Bool.not_false, cond_true, Option.bind_some, Bool.or_self, cond_false, Bool.and_self]
          by_cases h0 : i = 0
          · subst h0
            simp [qQ, dB]
          · have hi' : i - 1 < l.length := by omega
            have hw : IntKind.i64.wrap ((i : Int) - 1) = ((i - 1 : Nat) : Int) := by rw [dB (by omega) (by omega)]; omega
            have hx' := List.getElem?_eq_getElem hi'
            obtain ⟨_, e2, e3, _⟩ := idx hx' (by omega)
            have ge' : l.getD (i - 1) default = l[i - 1] := by simp [List.getD_eq_getElem?_getD, hi']
            have hr' := hl.2 _ (List.getElem_mem hi')
            have hz : decide ((i : Int) = 0) = false := by simp; omega
            simp only [hz, cond_false, hw, aJ e2, aJ d2, e3, d3, ge']
            rw [DB _ _ (by omega) (by omega), show (if (jV l[i - 1].Row && jV l[i].Row) = true then hU l[i - 1].Row l[i].Row else 0) = JK l[i - 1].Row l[i].Row from rfl]
            simp only [Option.bind_some, qQ, d4]
            rw [aJ (fun _ => e2), aJ (fun _ => d2)]
            generalize JK l[i - 1].Row l[i].Row = c
            cases hz2 : (decide (0 < c) || (decide (c = 0) && decide (l[i].At ≤ l[i - 1].At)))
            · simp
            · simp [h0]
        · simp [cV]
    · show nF _ _ = _
      simp only [nF, List.length_range, iC, cond_false]
  · have h1 : decide ((4096 : Int) < ((l.length : Nat) : Int)) = true := by simp; omega
    rw [h1, cond_true]
    simp [lK, hn]

end Go.Abs
namespace Go.Abs
open Go
theorem RJ {c : Int} : ∀ {l : List Int} {m : Int}, c ≤ l.foldl mn m ↔ c ≤ m ∧ ∀ x ∈ l, c ≤ x
  | [], m => by simp
  | a :: l, m => by
    rw [List.foldl_cons, RJ]
    unfold mn
    constructor
    · rintro ⟨h1, h2⟩
      have h3 : c ≤ m ∧ c ≤ a := by split at h1 <;> omega
      refine ⟨h3.1, fun x hx => ?_⟩
      rcases List.mem_cons.1 hx with rfl | hx
      · exact h3.2
      · exact h2 x hx
    · rintro ⟨h1, h2⟩
      have := h2 a (by simp)
      exact ⟨by split <;> omega, fun x hx => h2 x (by simp [hx])⟩

theorem KJ {t : Int} : ∀ {f : List aM} {l v : Int}, sV l f → v + val f t = v ∨ v + val f t ∈ parts v f
  | [], l, v, _ => .inl (by simp [val])
  | j :: r, l, v, h => by
    unfold parts
    rw [lJ]
    by_cases e : j.At ≤ t
    · rw [if_pos e]
      right
      rcases KJ (t := t) (v := v + j.Net) h.2 with h1 | h1
      · rw [show v + (j.Net + val r t) = v + j.Net by omega]; simp
      · rw [show v + (j.Net + val r t) = v + j.Net + val r t by omega]; exact List.mem_cons_of_mem _ h1
    · left
      rw [if_neg e, h.2.yY (by omega)]; omega

theorem zQ {f : List aM} (hf : mG f = true) : 0 ≤ sW f ↔ ∀ t, 0 ≤ val f t := by
  have hr := (qC.1 hf).2
  unfold sW
  rw [RJ]
  constructor
  · rintro ⟨_, h2⟩ t
    rcases KJ (t := t) (v := 0) hr with h | h
    · omega
    · rw [parts_eq hr] at h
      obtain ⟨j, hj, h⟩ := List.mem_map.1 h
      have := h2 _ (List.mem_map.2 ⟨j, hj, rfl⟩)
      omega
  · intro h
    refine ⟨h _, fun x hx => ?_⟩
    obtain ⟨j, _, rfl⟩ := List.mem_map.1 hx
    exact h _

theorem CE {l : List aI} : pK l = true ↔ lK l = true ∧ ∀ r t, 0 ≤ val (dR l r) t := by
  constructor
  · intro h
    unfold pK at h
    rw [Bool.and_eq_true, vN] at h
    obtain ⟨h1, h2, h3, _⟩ := h
    have hm : lK l = true := by
      unfold lK
      rw [Bool.and_eq_true]
      exact ⟨h1, vN.2 ⟨fun g hg => ⟨(h2 g hg).1, by have := (h2 g hg).2; unfold KF at this; rw [Bool.and_eq_true] at this; exact this.1⟩, h3, fun q hq => by cases hq⟩⟩
    refine ⟨hm, fun r => ?_⟩
    rw [← vX h3]
    rcases HL (groups l) r with ⟨e, _⟩ | ⟨g, hg, _, e⟩
    · rw [e]; intro t; simp [val]
    · rw [e]
      have := (h2 g hg).2
      unfold KF at this
      rw [Bool.and_eq_true, decide_eq_true_eq] at this
      exact (zQ this.1).1 this.2
  · rintro ⟨hm, h⟩
    obtain ⟨h1, h2, h3⟩ := mJ hm
    unfold pK
    rw [Bool.and_eq_true]
    refine ⟨by simpa using h1, vN.2 ⟨fun g hg => ⟨(h2 g hg).1, ?_⟩, h3, fun q hq => by cases hq⟩⟩
    unfold KF
    rw [Bool.and_eq_true, decide_eq_true_eq]
    refine ⟨(h2 g hg).2, (zQ (h2 g hg).2).2 ?_⟩
    have : g.2 = dR l g.1 := by rw [← vX h3, FY h3 hg]
    rw [this]; exact h g.1

theorem NQ {l : List aI} {r : List aB} (h : r ∉ rowsOf l) : dR l r = [] :=
  QT fun e he hr => h (BV.2 ⟨e, he, hr⟩)

theorem OU {l : List aI} (hl : okL l) : rV l = some (pK l) := by
  unfold rV
  rw [IX hl]
  cases hm : lK l
  · have : pK l = false := by
      rw [Bool.eq_false_iff]; intro h
      rw [(CE.1 h).1] at hm; cases hm
    rw [this]; rfl
  · obtain ⟨h1, h2, _⟩ := zC.1 hm
    simp only [Option.bind_some, Bool.not_true, cond_false, BP hl (fun e he => (h2 e he).1) (show l.length ≤ 1099511627776 by omega), tO]
    have hrl := HN l
    rw [AT (l := rowsOf l) (fun i => i) (fun r => decide (sW (dR l r) < 0)) (.inr false) (.inl ()) ?_ ?_]
    · cases hc : (rowsOf l).any fun r => decide (sW (dR l r) < 0)
      · have : pK l = true := CE.2 ⟨hm, fun r => by
          by_cases hr : r ∈ rowsOf l
          · have := List.any_eq_false.1 hc r hr
            simp only [decide_eq_true_eq] at this
            exact (zQ (wH hm r)).1 (by omega)
          · rw [NQ hr]; intro t; simp [val]⟩
        rw [this]; rfl
      · have : pK l = false := by
          rw [Bool.eq_false_iff]; intro h
          obtain ⟨r, _, hr⟩ := List.any_eq_true.1 hc
          simp only [decide_eq_true_eq] at hr
          have := (zQ (wH hm r)).2 ((CE.1 h).2 r)
          omega
        rw [this]; rfl
    · intro i r hi
      obtain ⟨d1, d2, d3, d4⟩ := idx hi (by omega)
      show mY _ _ _ = _
      simp only [mY, d1, cond_true, aJ d2, d3, d4, AN hl (show l.length ≤ 1099511627776 by omega), Option.bind_some, QF, wH hm r, if_true]
      by_cases h : sW (dR l r) < 0 <;> simp [h]
    · show mY _ _ _ = _
      simp only [mY, iC, cond_false]

end Go.Abs
namespace Go.Abs
open Go
theorem FH {l : List aI} (hm : lK l = true) : SQ l = groups l := by
  obtain ⟨_, _, hp, _⟩ := zC.1 hm
  have hs : Srt leE l := hp.imp fun h => by
    rcases h with h | ⟨h, h'⟩
    · exact .inl h
    · exact .inr ⟨h, by omega⟩
  have hg := CB hs
  unfold SQ
  rw [← PN (List.Perm.refl l) hs, List.map_map]
  conv => rhs; rw [← List.map_id (groups l)]
  refine List.map_congr_left fun g hg' => ?_
  simp only [Function.comp, id]
  rw [← vX hg, FY hg hg']

end Go.Abs
namespace Go.Abs
open Go
abbrev gN (d : List Int) (i : Nat) : Int := d.getD i default

def swp (d : List Int) (i j : Nat) : List Int := (d.set i (gN d j)).set j (gN d i)

theorem VZ {d : List Int} {i k : Nat} {x : Int} (h : i < d.length) : gN (d.set i x) k = if k = i then x else gN d k := by
  simp only [gN, List.getD_eq_getElem?_getD, List.getElem?_set]
  by_cases e : i = k
  · subst e; simp [h]
  · rw [if_neg e, if_neg (fun h => e h.symm)]

theorem gM (d : List Int) (i j : Nat) : (swp d i j).length = d.length := by simp [swp]

theorem sE {d : List Int} {i j : Nat} (hi : i < d.length) (hj : j < d.length) (k : Nat) : gN (swp d i j) k = if k = j then gN d i else if k = i then gN d j else gN d k := by
  unfold swp
  rw [VZ (by simpa using hj), VZ hi]

theorem XQ {d : List Int} {i j : Nat} (hi : i < d.length) (hj : j < d.length) : (swp d i j).Perm d := by
  have h1 : gN d i = d[i] := by simp [gN, List.getD_eq_getElem?_getD, List.getElem?_eq_getElem hi]
  have h2 : gN d j = d[j] := by simp [gN, List.getD_eq_getElem?_getD, List.getElem?_eq_getElem hj]
  unfold swp
  rw [h1, h2]
  exact List.set_set_perm hi hj

structure Rel (a b : Nat) (d d' : List Int) : Prop where
  len : d'.length = d.length
  perm : d'.Perm d
  out : ∀ k, k < a ∨ b ≤ k → gN d' k = gN d k
  src : ∀ k, a ≤ k → k < b → ∃ k', a ≤ k' ∧ k' < b ∧ gN d' k = gN d k'

theorem Rel.refl (a b : Nat) (d : List Int) : Rel a b d d := ⟨rfl, .refl _, fun _ _ => rfl, fun k h1 h2 => ⟨k, h1, h2, rfl⟩⟩

theorem Rel.trans {a b : Nat} {d d' d'' : List Int} (h : Rel a b d d') (h' : Rel a b d' d'') : Rel a b d d'' :=
  ⟨h'.len.trans h.len, h'.perm.trans h.perm, fun k hk => (h'.out k hk).trans (h.out k hk), fun k h1 h2 => by
    obtain ⟨k1, a1, a2, a3⟩ := h'.src k h1 h2
    obtain ⟨k2, b1, b2, b3⟩ := h.src k1 a1 a2
    exact ⟨k2, b1, b2, a3.trans b3⟩⟩

theorem Rel.mono {a b a' b' : Nat} {d d' : List Int} (h : Rel a b d d') (h1 : a' ≤ a) (h2 : b ≤ b') : Rel a' b' d d' :=
  ⟨h.len, h.perm, fun k hk => h.out k (by omega), fun k k1 k2 => by
    by_cases hk : a ≤ k ∧ k < b
    · obtain ⟨k', c1, c2, c3⟩ := h.src k hk.1 hk.2
      exact ⟨k', by omega, by omega, c3⟩
    · exact ⟨k, k1, k2, h.out k (by omega)⟩⟩

theorem Rel.swp {a b : Nat} {d : List Int} {i j : Nat} (hi : i < d.length) (hj : j < d.length) (h1 : a ≤ i ∧ i < b) (h2 : a ≤ j ∧ j < b) : Rel a b d (swp d i j) :=
  ⟨gM .., XQ hi hj, fun k hk => by rw [sE hi hj, if_neg (by omega), if_neg (by omega)], fun k k1 k2 => by
    rw [sE hi hj]
    split
    · exact ⟨i, h1.1, h1.2, rfl⟩
    · split
      · exact ⟨j, h2.1, h2.2, rfl⟩
      · exact ⟨k, k1, k2, rfl⟩⟩

theorem Rel.all {a b : Nat} {d d' : List Int} (h : Rel a b d d') {p : Int → Prop} (hp : ∀ k, a ≤ k → k < b → p (gN d k)) : ∀ k, a ≤ k → k < b → p (gN d' k) := fun k k1 k2 => by
  obtain ⟨k', c1, c2, c3⟩ := h.src k k1 k2
  rw [c3]; exact hp k' c1 c2

def oW (a b : Nat) (d : List Int) : Prop := ∀ p q, a ≤ p → p ≤ q → q < b → gN d p ≤ gN d q

theorem rD (a b : Int) : cW a b = some (decide (a < b)) := by simp [cW, kD, cV]

theorem wrN {x : Int} {n : Nat} (h : x = (n : Int)) (hn : n ≤ 9000000000000000000) : IntKind.i64.wrap x = (n : Int) := by
  rw [dB (by omega) (by omega), h]

theorem asN {i n : Nat} (h : i < n) : 0 ≤ (i : Int) ∧ (i : Int) < ((n : Nat) : Int) := by omega

theorem MV {a b i : Int} {d : List Int} {lo j : Nat} (ha : a = (lo : Nat)) (h1 : lo ≤ j) (hj : j < d.length) (hl : d.length < 4611686018427387904) :
    eW a b i d (j : Nat) = if lo < j ∧ gN d j < gN d (j - 1) then some (.inl (swp d j (j - 1), ((j - 1 : Nat) : Int))) else some (.inr d) := by
  subst ha
  unfold eW
  by_cases h : lo < j
  · have e1 : IntKind.i64.wrap ((j : Int) - 1) = ((j - 1 : Nat) : Int) := wrN (by omega) (by omega)
    have d1 : decide (((lo : Nat) : Int) < ((j : Nat) : Int)) = true := by simp; omega
    rw [e1, d1]
    simp only [true_and, Int.toNat_natCast, rD, cV, cond_true, Option.bind_some, Bool.true_and]
    rw [aJ fun _ => asN hj, aJ fun _ => asN (by omega)]
    by_cases h2 : gN d j < gN d (j - 1)
    · rw [if_pos ⟨h, h2⟩]
      simp only [gN] at h2
      simp only [h2, decide_true, cond_true]
      rw [aJ (asN (by omega)), aJ (asN hj), aJ (asN hj), aJ (asN (by omega))]
      rfl
    · rw [if_neg (fun hh => h2 hh.2)]
      simp only [gN] at h2
      simp only [h2, decide_false, cond_false]
  · have d1 : decide (((lo : Nat) : Int) < ((j : Nat) : Int)) = false := by simp; omega
    rw [if_neg (fun hh => h hh.1), d1]
    simp only [Bool.false_eq_true, false_implies, cV, cond_false, Option.bind_some, Bool.false_and]
    rw [aJ trivial, aJ trivial]

structure CU (a j i : Nat) (d : List Int) : Prop where
  oth : ∀ p q, a ≤ p → p ≤ q → q ≤ i → p ≠ j → q ≠ j → gN d p ≤ gN d q
  up : ∀ q, j < q → q ≤ i → gN d j ≤ gN d q

theorem CU.done {a j i : Nat} {d : List Int} (h : CU a j i d) (hj : a ≤ j) (hn : ¬ (a < j ∧ gN d j < gN d (j - 1))) : oW a (i + 1) d := by
  intro p q h1 h2 h3
  by_cases hp : p = j
  · by_cases hq : q = j
    · subst hp; subst hq; exact Int.le_refl _
    · subst hp; exact h.up q (by omega) (by omega)
  · by_cases hq : q = j
    · subst hq
      have h4 : ¬ gN d q < gN d (q - 1) := fun hh => hn ⟨by omega, hh⟩
      have := h.oth p (q - 1) h1 (by omega) (by omega) hp (by omega)
      omega
    · exact h.oth p q h1 h2 (by omega) hp hq

theorem CU.next {a j i : Nat} {d : List Int} (h : CU a j i d) (hj : a < j) (hji : j ≤ i) (hi : i < d.length) (hlt : gN d j < gN d (j - 1)) : CU a (j - 1) i (swp d j (j - 1)) := by
  have g := sE (d := d) (i := j) (j := j - 1) (by omega) (by omega)
  refine ⟨fun p q h1 h2 h3 hp hq => ?_, fun q h1 h2 => ?_⟩
  · rw [g, g, if_neg hp, if_neg hq]
    by_cases hpj : p = j
    · rw [if_pos hpj]
      by_cases hqj : q = j
      · rw [if_pos hqj]; exact Int.le_refl _
      · rw [if_neg hqj]; exact h.oth (j - 1) q (by omega) (by omega) h3 (by omega) hqj
    · rw [if_neg hpj]
      by_cases hqj : q = j
      · rw [if_pos hqj]; exact h.oth p (j - 1) h1 (by omega) (by omega) hpj (by omega)
      · rw [if_neg hqj]; exact h.oth p q h1 h2 h3 hpj hqj
  · rw [g, g, if_pos rfl, if_neg (by omega)]
    by_cases hqj : q = j
    · rw [if_pos hqj]; omega
    · rw [if_neg hqj]; exact h.up q (by omega) h2

theorem aAD {a b i : Int} {lo hi : Nat} (ha : a = (lo : Nat)) : ∀ (j : Nat) (d : List Int), lo ≤ j → j ≤ hi → hi < d.length → d.length < 4611686018427387904 → CU lo j hi d →
    ∃ d', lp (fun s : List Int × Int => eW a b i s.1 s.2) (d, (j : Int)) = some d' ∧ Rel lo (hi + 1) d d' ∧ oW lo (hi + 1) d' := by
  intro j
  induction j with
  | zero =>
    intro d h1 h2 h3 h4 h5
    have hs := MV (a := a) (b := b) (i := i) ha h1 (by omega) h4 (d := d)
    rw [if_neg (by omega)] at hs
    exact ⟨d, cQ hs, Rel.refl .., h5.done h1 (by omega)⟩
  | succ j ih =>
    intro d h1 h2 h3 h4 h5
    have hs := MV (a := a) (b := b) (i := i) ha h1 (by omega) h4 (d := d)
    by_cases h : lo < j + 1 ∧ gN d (j + 1) < gN d (j + 1 - 1)
    · rw [if_pos h] at hs
      obtain ⟨d', e, r, s⟩ := ih (swp d (j + 1) (j + 1 - 1)) (by omega) (by omega) (by rw [gM]; omega) (by rw [gM]; omega) (h5.next h.1 h2 h3 h.2)
      exact ⟨d', (fB hs).trans e, (Rel.swp (by omega) (by omega) (by omega) (by omega)).trans r, s⟩
    · rw [if_neg h] at hs
      exact ⟨d, cQ hs, Rel.refl .., h5.done h1 h⟩

theorem QM {a b : Int} {lo hi : Nat} (ha : a = (lo : Nat)) (hb : b = (hi : Nat)) : ∀ (n i : Nat) (d : List Int), hi - i = n → lo < i → hi ≤ d.length → d.length < 4611686018427387904 → oW lo i d → (i ≤ hi ∨ hi ≤ i) →
    ∃ d', lp (fun s : List Int × Int => dJ a b s.1 s.2) (d, (i : Int)) = some d' ∧ Rel lo hi d d' ∧ oW lo hi d' := by
  intro n
  induction n with
  | zero =>
    intro i d h1 h2 h3 h4 h5 _
    refine ⟨d, cQ ?_, Rel.refl .., fun p q p1 p2 p3 => h5 p q p1 p2 (by omega)⟩
    show dJ _ _ _ _ = _
    have : decide (((i : Nat) : Int) < b) = false := by simp; omega
    simp only [dJ, this, cond_false]
  | succ n ih =>
    intro i d h1 h2 h3 h4 h5 _
    obtain ⟨d1, e, r, s⟩ := aAD (a := a) (b := b) (i := (i : Int)) (hi := i) ha i d (by omega) (Nat.le_refl _) (by omega) h4 ⟨fun p q p1 p2 p3 p4 p5 => h5 p q p1 p2 (by omega), fun q q1 q2 => by omega⟩
    obtain ⟨d2, e2, r2, s2⟩ := ih (i + 1) d1 (by omega) (by omega) (by rw [r.len]; exact h3) (by rw [r.len]; exact h4) s (by omega)
    refine ⟨d2, ?_, (r.mono (Nat.le_refl _) (by omega)).trans r2, s2⟩
    rw [fB (s' := (d1, ((i + 1 : Nat) : Int))) ?_, e2]
    show dJ _ _ _ _ = _
    have : decide (((i : Nat) : Int) < b) = true := by simp; omega
    simp only [dJ, this, cond_true, iZ]
    rw [e]
    simp only [Option.bind_some, gC]
    rw [wrN (n := i + 1) (by omega) (by omega)]

theorem HA (lo : Nat) (d : List Int) : oW lo (lo + 1) d := fun p q p1 p2 p3 => by
  have : p = q := by omega
  subst this
  exact Int.le_refl _

theorem XN {lo hi : Nat} {d : List Int} (h3 : hi ≤ d.length) (h4 : d.length < 4611686018427387904) (h0 : lo ≤ hi) : ∃ d', gL d (lo : Int) (hi : Int) = some d' ∧ Rel lo hi d d' ∧ oW lo hi d' := by
  unfold gL iY
  obtain ⟨d', e, r, s⟩ := QM (a := (lo : Int)) (b := (hi : Int)) (lo := lo) (hi := hi) rfl rfl (hi - (lo + 1)) (lo + 1) d rfl (by omega) h3 h4 (HA lo d) (by omega)
  rw [wrN (n := lo + 1) (by omega) (by omega), e]
  exact ⟨d', rfl, r, s⟩

theorem aA2 {lo hi : Nat} : ∀ (n i j : Nat) (d : List Int), j + 1 - i = n → lo ≤ i → j + 1 ≤ hi ∨ j ≤ i → hi ≤ d.length → d.length < 4611686018427387904 → i < 4611686018427387904 → j < 4611686018427387904 →
    ∃ d', lp (fun s : List Int × Int × Int => dM s.1 s.2.1 s.2.2) (d, (i : Int), (j : Int)) = some d' ∧ Rel lo hi d d' := by
  intro n
  induction n using Nat.strongRecOn with
  | ind n ih =>
    intro i j d h1 h2 h3 h4 h5 h6 h7
    by_cases h : i < j
    · obtain ⟨d', e, r⟩ := ih (j - 1 + 1 - (i + 1)) (by omega) (i + 1) (j - 1) (swp d i j) rfl (by omega) (by omega) (by rw [gM]; exact h4) (by rw [gM]; exact h5) (by omega) (by omega)
      refine ⟨d', ?_, (Rel.swp (by omega) (by omega) (by omega) (by omega)).trans r⟩
      rw [fB (s' := (swp d i j, ((i + 1 : Nat) : Int), ((j - 1 : Nat) : Int))) ?_, e]
      show dM _ _ _ = _
      have : decide (((i : Nat) : Int) < ((j : Nat) : Int)) = true := by simp; omega
      simp only [dM, this, cond_true, Int.toNat_natCast]
      rw [aJ (asN (by omega)), aJ (asN (by omega)), aJ (asN (by omega)), aJ (asN (by omega)), wrN (n := i + 1) (by omega) (by omega), wrN (n := j - 1) (by omega) (by omega)]
      rfl
    · refine ⟨d, cQ ?_, Rel.refl ..⟩
      show dM _ _ _ = _
      have : decide (((i : Nat) : Int) < ((j : Nat) : Int)) = false := by simp; omega
      simp only [dM, this, cond_false]

theorem UR {lo hi : Nat} {d : List Int} (h0 : lo < hi) (h3 : hi ≤ d.length) (h4 : d.length < 4611686018427387904) : ∃ d', gV d (lo : Int) (hi : Int) = some d' ∧ Rel lo hi d d' := by
  unfold gV jH
  obtain ⟨d', e, r⟩ := aA2 (lo := lo) (hi := hi) (hi - 1 + 1 - lo) lo (hi - 1) d rfl (Nat.le_refl _) (by omega) h3 h4 (by omega) (by omega)
  rw [wrN (n := hi - 1) (by omega) (by omega), e]
  exact ⟨d', rfl, r⟩

end Go.Abs
namespace Go.Abs
open Go
def wG (f hi : Nat) (d : List Int) (r : Nat) : Nat := if 2 * r + 2 < hi ∧ gN d (f + (2 * r + 1)) < gN d (f + (2 * r + 2)) then 2 * r + 2 else 2 * r + 1

theorem JW {f hi r c : Nat} {d : List Int} (hf : f + hi ≤ d.length) (hr : r < hi) (hc : c < hi) (hl : d.length < 2305843009213693951) :
    gE d (hi : Nat) (f : Nat) (r : Nat) (c : Nat) = if gN d (f + r) < gN d (f + c) then some (.inl (swp d (f + r) (f + c), (c : Int))) else some (.inr (.inr d)) := by
  unfold gE
  have e1 : IntKind.i64.wrap ((f : Int) + (r : Int)) = ((f + r : Nat) : Int) := wrN (by omega) (by omega)
  have e2 : IntKind.i64.wrap ((f : Int) + (c : Int)) = ((f + c : Nat) : Int) := wrN (by omega) (by omega)
  rw [e1, e2]
  simp only [Int.toNat_natCast, rD, Option.bind_some]
  rw [aJ (asN (by omega)), aJ (asN (by omega))]
  by_cases h : gN d (f + r) < gN d (f + c)
  · rw [if_pos h]
    simp only [gN] at h
    simp only [h, decide_true, Bool.not_true, cond_false]
    rw [aJ (asN (by omega)), aJ (asN (by omega)), aJ (asN (by omega)), aJ (asN (by omega))]
    rfl
  · rw [if_neg h]
    simp only [gN] at h
    simp only [h, decide_false, Bool.not_false, cond_true]

theorem UI {f hi r : Nat} {d : List Int} (hf : f + hi ≤ d.length) (hr : r < hi) (hl : d.length < 2305843009213693951) :
    dG (hi : Nat) (f : Nat) d (r : Nat) = if hi ≤ 2 * r + 1 then some (.inr (.inl d)) else if gN d (f + r) < gN d (f + wG f hi d r) then some (.inl (swp d (f + r) (f + wG f hi d r), (wG f hi d r : Int))) else some (.inr (.inr d)) := by
  unfold dG
  have e1 : IntKind.i64.wrap (IntKind.i64.wrap ((2 : Int) * (r : Int)) + 1) = ((2 * r + 1 : Nat) : Int) := by
    rw [wrN (x := (2 : Int) * (r : Int)) (n := 2 * r) (by omega) (by omega)]; exact wrN (by omega) (by omega)
  have e2 : IntKind.i64.wrap (((2 * r + 1 : Nat) : Int) + 1) = ((2 * r + 2 : Nat) : Int) := wrN (by omega) (by omega)
  simp only [e1, e2]
  by_cases h : hi ≤ 2 * r + 1
  · rw [if_pos h]
    have : decide (((hi : Nat) : Int) ≤ ((2 * r + 1 : Nat) : Int)) = true := by simp; omega
    rw [this, cond_true]
  · rw [if_neg h]
    have d1 : decide (((hi : Nat) : Int) ≤ ((2 * r + 1 : Nat) : Int)) = false := by simp; omega
    rw [d1, cond_false]
    by_cases h2 : 2 * r + 2 < hi
    · have d2 : decide (((2 * r + 2 : Nat) : Int) < ((hi : Nat) : Int)) = true := by simp; omega
      have e3 : IntKind.i64.wrap ((f : Int) + ((2 * r + 1 : Nat) : Int)) = ((f + (2 * r + 1) : Nat) : Int) := wrN (by omega) (by omega)
      have e4 : IntKind.i64.wrap (((f + (2 * r + 1) : Nat) : Int) + 1) = ((f + (2 * r + 2) : Nat) : Int) := wrN (by omega) (by omega)
      simp only [d2, e3, e4, Int.toNat_natCast, rD, cV, cond_true, Option.bind_some, Bool.true_and]
      rw [aJ fun _ => asN (by omega), aJ fun _ => asN (by omega)]
      by_cases h3 : gN d (f + (2 * r + 1)) < gN d (f + (2 * r + 2))
      · have hb : wG f hi d r = 2 * r + 2 := if_pos ⟨h2, h3⟩
        simp only [gN] at h3
        simp only [h3, decide_true, cond_true]
        rw [JW hf hr h2 hl, hb]
      · have hb : wG f hi d r = 2 * r + 1 := if_neg fun hh => h3 hh.2
        simp only [gN] at h3
        simp only [h3, decide_false, cond_false]
        rw [JW hf hr (by omega) hl, hb]
    · have d2 : decide (((2 * r + 2 : Nat) : Int) < ((hi : Nat) : Int)) = false := by simp; omega
      have hb : wG f hi d r = 2 * r + 1 := if_neg fun hh => h2 hh.1
      simp only [d2, Bool.false_eq_true, false_implies, cV, cond_false, Option.bind_some, Bool.false_and]
      rw [aJ trivial, aJ trivial, JW hf hr (by omega) hl, hb]

def chd (c p : Nat) : Prop := c = 2 * p + 1 ∨ c = 2 * p + 2

def Hp (f lo hi : Nat) (d : List Int) : Prop := ∀ i c, lo ≤ i → chd c i → c < hi → gN d (f + c) ≤ gN d (f + i)

structure HpX (f lo hi r : Nat) (d : List Int) : Prop where
  oth : ∀ i c, lo ≤ i → i ≠ r → chd c i → c < hi → gN d (f + c) ≤ gN d (f + i)
  up : ∀ p c, lo ≤ p → chd r p → chd c r → c < hi → gN d (f + c) ≤ gN d (f + p)

theorem VT {f hi r : Nat} {d : List Int} (h : ¬ hi ≤ 2 * r + 1) : chd (wG f hi d r) r ∧ wG f hi d r < hi ∧ ∀ c, chd c r → c < hi → gN d (f + c) ≤ gN d (f + wG f hi d r) := by
  unfold wG
  split
  · rename_i h1
    refine ⟨.inr rfl, h1.1, fun c hc hlt => ?_⟩
    rcases hc with rfl | rfl
    · omega
    · exact Int.le_refl _
  · rename_i h1
    refine ⟨.inl rfl, by omega, fun c hc hlt => ?_⟩
    rcases hc with rfl | rfl
    · exact Int.le_refl _
    · have : ¬ gN d (f + (2 * r + 1)) < gN d (f + (2 * r + 2)) := fun hh => h1 ⟨hlt, hh⟩
      omega

theorem HpX.done {f lo hi r : Nat} {d : List Int} (h : HpX f lo hi r d) (hr : ∀ c, chd c r → c < hi → gN d (f + c) ≤ gN d (f + r)) : Hp f lo hi d := by
  intro i c h1 h2 h3
  by_cases e : i = r
  · subst e; exact hr c h2 h3
  · exact h.oth i c h1 e h2 h3

theorem HpX.next {f lo hi r c : Nat} {d : List Int} (h : HpX f lo hi r d) (hf : f + hi ≤ d.length) (hlo : lo ≤ r) (hrh : r < hi) (hc : chd c r) (hch : c < hi) (hbig : ∀ k, chd k r → k < hi → gN d (f + k) ≤ gN d (f + c)) (hlt : gN d (f + r) < gN d (f + c)) : HpX f lo hi c (swp d (f + r) (f + c)) := by
  have g := sE (d := d) (i := f + r) (j := f + c) (by omega) (by omega)
  have hcr : r < c := by unfold chd at hc; omega
  refine ⟨fun i k h1 h2 h3 h4 => ?_, fun p k h1 h2 h3 h4 => ?_⟩
  · rw [g, g, if_neg (show ¬ f + i = f + c by omega)]
    by_cases hir : i = r
    · subst hir
      rw [if_pos (show f + i = f + i from rfl)]
      by_cases hkc : k = c
      · subst hkc; rw [if_pos rfl]; omega
      · rw [if_neg (by omega), if_neg (by unfold chd at h3; omega)]
        exact hbig k h3 h4
    · rw [if_neg (show ¬ f + i = f + r by omega)]
      have hkc : k ≠ c := by intro e; subst e; unfold chd at h3 hc; omega
      rw [if_neg (by omega)]
      by_cases hkr : k = r
      · subst hkr
        rw [if_pos rfl]
        exact h.up i c h1 h3 hc hch
      · rw [if_neg (by omega)]
        exact h.oth i k h1 hir h3 h4
  · have hp : p = r := by unfold chd at h2 hc; omega
    subst hp
    have hk : c < k := by unfold chd at h3; omega
    rw [g, g, if_neg (by omega), if_neg (by omega), if_neg (by omega), if_pos rfl]
    exact h.oth c k (by omega) (by omega) h3 h4

theorem aAd {f lo hi : Nat} : ∀ (n r : Nat) (d : List Int), hi - r = n → f + hi ≤ d.length → lo ≤ r → r < hi → d.length < 2305843009213693951 → HpX f lo hi r d →
    ∃ d', (lp (fun s : List Int × Int => dG (hi : Nat) (f : Nat) s.1 s.2) (d, (r : Int)) = some (.inl d') ∨ lp (fun s : List Int × Int => dG (hi : Nat) (f : Nat) s.1 s.2) (d, (r : Int)) = some (.inr d')) ∧ Rel f (f + hi) d d' ∧ Hp f lo hi d' := by
  intro n
  induction n using Nat.strongRecOn with
  | ind n ih =>
    intro r d h1 h2 h3 h4 h5 h6
    have hs := UI h2 h4 h5
    by_cases h : hi ≤ 2 * r + 1
    · rw [if_pos h] at hs
      exact ⟨d, .inl (cQ hs), Rel.refl .., h6.done fun c hc hlt => by unfold chd at hc; omega⟩
    · rw [if_neg h] at hs
      obtain ⟨b1, b2, b3⟩ := VT (f := f) (d := d) h
      by_cases hlt : gN d (f + r) < gN d (f + wG f hi d r)
      · rw [if_pos hlt] at hs
        have hb : r < wG f hi d r := by unfold chd at b1; omega
        obtain ⟨d', e, rl, hp⟩ := ih (hi - wG f hi d r) (by omega) (wG f hi d r) _ rfl (by rw [gM]; exact h2) (by omega) b2 (by rw [gM]; exact h5) (h6.next h2 h3 h4 b1 b2 b3 hlt)
        exact ⟨d', e.imp (fun e => (fB hs).trans e) (fun e => (fB hs).trans e), (Rel.swp (by omega) (by omega) (by omega) (by omega)).trans rl, hp⟩
      · rw [if_neg hlt] at hs
        exact ⟨d, .inr (cQ hs), Rel.refl .., h6.done fun c hc hc2 => by have := b3 c hc hc2; omega⟩

theorem RQ {f lo hi : Nat} {d : List Int} (h2 : f + hi ≤ d.length) (h5 : d.length < 2305843009213693951) (hlo : lo < 2305843009213693951) (h6 : HpX f lo hi lo d) :
    ∃ d', fG d (lo : Nat) (hi : Nat) (f : Nat) = some d' ∧ Rel f (f + hi) d d' ∧ Hp f lo hi d' := by
  unfold fG kJ
  by_cases h : lo < hi
  · obtain ⟨d', e, r, p⟩ := aAd (hi - lo) lo d rfl h2 (Nat.le_refl _) h h5 h6
    rcases e with e | e <;> rw [e] <;> exact ⟨d', rfl, r, p⟩
  · refine ⟨d, ?_, Rel.refl .., fun i c h1 hc hlt => by unfold chd at hc; omega⟩
    have hs : dG (hi : Nat) (f : Nat) d (lo : Nat) = some (.inr (.inl d)) := by
      unfold dG
      have e1 : IntKind.i64.wrap (IntKind.i64.wrap ((2 : Int) * (lo : Int)) + 1) = ((2 * lo + 1 : Nat) : Int) := by
        rw [wrN (x := (2 : Int) * (lo : Int)) (n := 2 * lo) (by omega) (by omega)]; exact wrN (by omega) (by omega)
      have : decide (((hi : Nat) : Int) ≤ ((2 * lo + 1 : Nat) : Int)) = true := by simp; omega
      simp only [e1, this, cond_true]
    rw [cQ (show (fun s : List Int × Int => dG (hi : Nat) (f : Nat) s.1 s.2) (d, (lo : Int)) = _ from hs)]
    rfl

theorem UN {f k : Nat} {d : List Int} (h : Hp f 0 k d) : ∀ i, i < k → gN d (f + i) ≤ gN d f := by
  intro i
  induction i using Nat.strongRecOn with
  | ind i ih =>
    intro hi
    by_cases h0 : i = 0
    · subst h0; exact Int.le_refl _
    · have h1 := h ((i - 1) / 2) i (Nat.zero_le _) (by unfold chd; omega) hi
      have h2 := ih ((i - 1) / 2) (by omega) (by omega)
      omega

theorem QV {f hi : Nat} : ∀ (k : Nat) (d : List Int), f + hi ≤ d.length → k < 2305843009213693951 → d.length < 2305843009213693951 → Hp f k hi d →
    ∃ d', lp (fun s : List Int × Int => eA (f : Nat) 0 (hi : Nat) s.1 s.2) (d, (k : Int) - 1) = some d' ∧ Rel f (f + hi) d d' ∧ Hp f 0 hi d'
  | 0, d, _, _, _, h => by
    refine ⟨d, cQ ?_, Rel.refl .., h⟩
    show eA _ _ _ _ _ = _
    have : decide ((0 : Int) ≤ ((0 : Nat) : Int) - 1) = false := by simp
    simp only [eA, this, cond_false]
  | k + 1, d, h1, h2, h3, h => by
    obtain ⟨d1, e, r, p⟩ := RQ (f := f) (lo := k) (hi := hi) h1 h3 (by omega) ⟨fun i c a1 a2 a3 a4 => h i c (by omega) a3 a4, fun p c a1 a2 => by unfold chd at a2; omega⟩
    obtain ⟨d2, e2, r2, p2⟩ := QV (f := f) (hi := hi) k d1 (by rw [r.len]; exact h1) (by omega) (by rw [r.len]; exact h3) p
    refine ⟨d2, ?_, r.trans r2, p2⟩
    rw [fB (s' := (d1, (k : Int) - 1)) ?_, e2]
    show eA _ _ _ _ _ = _
    have g1 : (((k + 1 : Nat) : Int) - 1) = (k : Int) := by omega
    have g2 : decide ((0 : Int) ≤ (k : Int)) = true := by simp
    simp only [eA, g1, g2, cond_true, e, Option.bind_some]
    rw [dB (by omega) (by omega)]

theorem VI {f n : Nat} : ∀ (k : Nat) (d : List Int), k ≤ n → f + n ≤ d.length → d.length < 2305843009213693951 → Hp f 0 k d → oW (f + k) (f + n) d → (∀ p q, f ≤ p → p < f + k → f + k ≤ q → q < f + n → gN d p ≤ gN d q) →
    ∃ d', lp (fun s : List Int × Int => eB (f : Nat) 0 s.1 s.2) (d, (k : Int) - 1) = some d' ∧ Rel f (f + n) d d' ∧ oW f (f + n) d'
  | 0, d, _, _, _, _, hs, _ => by
    refine ⟨d, cQ ?_, Rel.refl .., hs⟩
    show eB _ _ _ _ = _
    have : decide ((0 : Int) ≤ ((0 : Nat) : Int) - 1) = false := by simp
    simp only [eB, this, cond_false]
  | k + 1, d, h1, h2, h3, h, hs, hb => by
    have g := sE (d := d) (i := f) (j := f + k) (by omega) (by omega)
    have hroot := UN h
    obtain ⟨d1, e, r, p⟩ := RQ (f := f) (lo := 0) (hi := k) (d := swp d f (f + k)) (by rw [gM]; omega) (by rw [gM]; exact h3) (by omega) ⟨fun i c a1 a2 a3 a4 => by
      rw [g, g, if_neg (by unfold chd at a3; omega), if_neg (by unfold chd at a3; omega), if_neg (by unfold chd at a3; omega), if_neg (by omega)]
      exact h i c (by omega) a3 (by omega), fun p c a1 a2 => by unfold chd at a2; omega⟩
    have rs : Rel f (f + n) d (swp d f (f + k)) := Rel.swp (i := f) (j := f + k) (by omega) (by omega) (by omega) (by omega)
    have top : gN d1 (f + k) = gN d f := by rw [r.out _ (by omega), g, if_pos rfl]
    have tail : ∀ q, f + k < q → gN d1 q = gN d q := fun q hq => by rw [r.out _ (by omega), g, if_neg (by omega), if_neg (by omega)]
    have low : ∀ p, f ≤ p → p < f + k → ∃ p', f ≤ p' ∧ p' < f + (k + 1) ∧ gN d1 p = gN d p' := fun p p1 p2 => by
      obtain ⟨p', a1, a2, a3⟩ := r.src p p1 p2
      rw [g, if_neg (by omega)] at a3
      by_cases hp : p' = f
      · rw [if_pos hp] at a3; exact ⟨f + k, by omega, by omega, a3⟩
      · rw [if_neg hp] at a3; exact ⟨p', a1, by omega, a3⟩
    obtain ⟨d2, e2, r2, s2⟩ := VI (f := f) (n := n) k d1 (by omega) (by rw [r.len, gM]; exact h2) (by rw [r.len, gM]; exact h3) p (fun p q p1 p2 p3 => by
      by_cases hq : q = f + k
      · have : p = f + k := by omega
        rw [hq, this]; exact Int.le_refl _
      · rw [tail q (by omega)]
        by_cases hp : p = f + k
        · rw [hp, top]; exact hb f q (Nat.le_refl _) (by omega) (by omega) p3
        · rw [tail p (by omega)]; exact hs p q (by omega) p2 p3) (fun p q p1 p2 p3 p4 => by
      obtain ⟨p', a1, a2, a3⟩ := low p p1 p2
      rw [a3]
      by_cases hq : q = f + k
      · rw [hq, top]
        have := hroot (p' - f) (by omega)
        rw [show f + (p' - f) = p' by omega] at this
        exact this
      · rw [tail q (by omega)]; exact hb p' q a1 a2 (by omega) p4)
    refine ⟨d2, ?_, (rs.trans (r.mono (Nat.le_refl _) (by omega))).trans r2, s2⟩
    rw [fB (s' := (d1, (k : Int) - 1)) ?_, e2]
    show eB _ _ _ _ = _
    have g1 : (((k + 1 : Nat) : Int) - 1) = (k : Int) := by omega
    have g2 : decide ((0 : Int) ≤ (k : Int)) = true := by simp
    have g3 : IntKind.i64.wrap ((f : Int) + (k : Int)) = ((f + k : Nat) : Int) := wrN (by omega) (by omega)
    simp only [eB, g1, g2, g3, cond_true, Int.toNat_natCast]
    rw [aJ (asN (by omega)), aJ (asN (by omega)), aJ (asN (by omega)), aJ (asN (by omega))]
    have e' : fG (List.set (List.set d f (List.getD d (f + k) default)) (f + k) (List.getD d f default)) 0 (k : Int) (f : Int) = some d1 := e
    rw [e']
    simp only [Option.bind_some]
    rw [dB (by omega) (by omega)]

theorem VG {lo hi : Nat} {d : List Int} (h0 : lo < hi) (h1 : hi ≤ d.length) (h3 : d.length < 2305843009213693951) : ∃ d', jF d (lo : Int) (hi : Int) = some d' ∧ Rel lo hi d d' ∧ oW lo hi d' := by
  unfold jF
  rw [aJ (by decide)]
  have e1 : IntKind.i64.wrap ((hi : Int) - (lo : Int)) = ((hi - lo : Nat) : Int) := wrN (by omega) (by omega)
  have e2 : IntKind.i64.wrap (((hi - lo : Nat) : Int) - 1) = ((hi - lo - 1 : Nat) : Int) := wrN (by omega) (by omega)
  have e3 : IntKind.i64.wrap (Int.tdiv ((hi - lo - 1 : Nat) : Int) 2) = (((hi - lo - 1) / 2 + 1 : Nat) : Int) - 1 := by
    have : Int.tdiv ((hi - lo - 1 : Nat) : Int) 2 = (((hi - lo - 1) / 2 : Nat) : Int) := by rw [Int.tdiv_eq_ediv_of_nonneg (by omega)]; omega
    rw [this, wrN (n := (hi - lo - 1) / 2) rfl (by omega)]; omega
  rw [e1, e2, e3]
  unfold kK
  obtain ⟨d1, a1, r1, p1⟩ := QV (f := lo) (hi := hi - lo) ((hi - lo - 1) / 2 + 1) d (by omega) (by omega) h3 (fun i c b1 b2 b3 => by unfold chd at b2; omega)
  rw [a1]
  simp only [Option.bind_some, iW, kI]
  obtain ⟨d2, a2, r2, s2⟩ := VI (f := lo) (n := hi - lo) (hi - lo) d1 (Nat.le_refl _) (by rw [r1.len]; omega) (by rw [r1.len]; exact h3) p1 (fun p q b1 b2 b3 => by omega) (fun p q b1 b2 b3 b4 => by omega)
  have e4 : IntKind.i64.wrap (((hi - lo : Nat) : Int) - 1) = ((hi - lo : Nat) : Int) - 1 := dB (by omega) (by omega)
  rw [e4, a2]
  have : lo + (hi - lo) = hi := by omega
  rw [this] at r1 r2 s2
  exact ⟨d2, rfl, r1.trans r2, s2⟩

end Go.Abs
namespace Go.Abs
open Go
def GR : ByteArray := ⟨#[0, 1, 2, 2, 3, 3, 3, 3, 4, 4, 4, 4, 4, 4, 4, 4, 5, 5, 5, 5, 5, 5, 5, 5, 5, 5, 5, 5, 5, 5, 5, 5, 6, 6, 6, 6, 6, 6, 6, 6, 6, 6, 6, 6, 6, 6, 6, 6, 6, 6, 6, 6, 6, 6, 6, 6, 6, 6, 6, 6, 6, 6, 6, 6, 7, 7, 7, 7, 7, 7, 7, 7, 7, 7, 7, 7, 7, 7, 7, 7, 7, 7, 7, 7, 7, 7, 7, 7, 7, 7, 7, 7, 7, 7, 7, 7, 7, 7, 7, 7, 7, 7, 7, 7, 7, 7, 7, 7, 7, 7, 7, 7, 7, 7, 7, 7, 7, 7, 7, 7, 7, 7, 7, 7, 7, 7, 7, 7, 8, 8, 8, 8, 8, 8, 8, 8, 8, 8, 8, 8, 8, 8, 8, 8, 8, 8, 8, 8, 8, 8, 8, 8, 8, 8, 8, 8, 8, 8, 8, 8, 8, 8, 8, 8, 8, 8, 8, 8, 8, 8, 8, 8, 8, 8, 8, 8, 8, 8, 8, 8, 8, 8, 8, 8, 8, 8, 8, 8, 8, 8, 8, 8, 8, 8, 8, 8, 8, 8, 8, 8, 8, 8, 8, 8, 8, 8, 8, 8, 8, 8, 8, 8, 8, 8, 8, 8, 8, 8, 8, 8, 8, 8, 8, 8, 8, 8, 8, 8, 8, 8, 8, 8, 8, 8, 8, 8, 8, 8, 8, 8, 8, 8, 8, 8, 8, 8, 8, 8, 8, 8, 8, 8, 8, 8, 8, 8]⟩

theorem WB : ∀ i : Fin 256, i.val ≠ 0 → ∃ k : Fin 8, bt GR (i.val : Int) = (k.val : Int) + 1 ∧ 2 ^ k.val ≤ i.val := by decide +kernel

theorem KX : ByteArray.size GR = 256 := by decide +kernel

theorem YZ {x : Int} (h : 0 ≤ x) (h2 : x ≤ 255) : IntKind.u8.wrap x = x := by
  simp only [IntKind.wrap, IntKind.bits, IntKind.signed]
  simp
  omega

theorem EN {x : Int} (h : 0 ≤ x) (h2 : x ≤ 9223372036854775807) : IntKind.u64.wrap x = x := by
  simp only [IntKind.wrap, IntKind.bits, IntKind.signed]
  simp
  omega

theorem UH {x n : Int} (h1 : 1 ≤ x) (h2 : x ≤ 255) (hn : 0 ≤ n ∧ n ≤ 100) : ∃ k : Nat, lW x n = some (n + k + 1) ∧ k ≤ 7 ∧ (2 : Int) ^ k ≤ x := by
  obtain ⟨k, e, hk⟩ := WB ⟨x.toNat, by omega⟩ (by simp; omega)
  refine ⟨k.val, ?_, by omega, ?_⟩
  · show (bA (0 ≤ (IntKind.u8.wrap x) ∧ (IntKind.u8.wrap x) < ((ByteArray.size GR : Nat) : Int)) <| some (IntKind.i64.wrap (n + (IntKind.i64.wrap (bt GR (IntKind.u8.wrap x)))))) = _
    rw [YZ (by omega) h2, aJ (by rw [KX]; omega)]
    simp only at e
    rw [Int.toNat_of_nonneg (by omega)] at e
    rw [e, dB (n := (k.val : Int) + 1) (by omega) (by omega), dB (by omega) (by omega)]
    congr 1
    omega
  · simp only at hk
    have : ((2 ^ k.val : Nat) : Int) ≤ ((x.toNat : Nat) : Int) := by exact_mod_cast hk
    rw [Int.toNat_of_nonneg (by omega)] at this
    simpa using this

theorem GI {x m : Int} (hm : 0 < m) : Int.fdiv x m = x / m := Int.fdiv_eq_ediv_of_nonneg _ (by omega)

theorem WO {x n : Int} (h1 : 1 ≤ x) (h2 : x ≤ 65535) (hn : 0 ≤ n ∧ n ≤ 90) : ∃ k : Nat, kN x n = some (n + k + 1) ∧ k ≤ 15 ∧ (2 : Int) ^ k ≤ x := by
  unfold kN
  by_cases h : 256 ≤ x
  · have hd : Int.fdiv x (2 ^ (min (Int.toNat (8 : Int)) 64)) = x / 256 := by rw [show (2 ^ (min (Int.toNat (8 : Int)) 64) : Int) = 256 from by decide]; exact GI (by omega)
    obtain ⟨k, e, h3, h4⟩ := UH (x := x / 256) (n := n + 8) (by omega) (by omega) (by omega)
    refine ⟨k + 8, ?_, by omega, ?_⟩
    · simp only [h, decide_true, cond_true]
      rw [aJ (by decide), hd, dB (n := n + 8) (by omega) (by omega), e]
      congr 1; omega
    · rw [Int.pow_add]; have : (2 : Int) ^ 8 = 256 := by decide
      rw [this]; omega
  · obtain ⟨k, e, h3, h4⟩ := UH (x := x) (n := n) h1 (by omega) (by omega)
    exact ⟨k, by simp only [h, decide_false, cond_false, e], by omega, h4⟩

theorem US {x n : Int} (h1 : 1 ≤ x) (h2 : x ≤ 4294967295) (hn : 0 ≤ n ∧ n ≤ 70) : ∃ k : Nat, kL x n = some (n + k + 1) ∧ k ≤ 31 ∧ (2 : Int) ^ k ≤ x := by
  unfold kL
  by_cases h : 65536 ≤ x
  · have hd : Int.fdiv x (2 ^ (min (Int.toNat (16 : Int)) 64)) = x / 65536 := by rw [show (2 ^ (min (Int.toNat (16 : Int)) 64) : Int) = 65536 from by decide]; exact GI (by omega)
    obtain ⟨k, e, h3, h4⟩ := WO (x := x / 65536) (n := n + 16) (by omega) (by omega) (by omega)
    refine ⟨k + 16, ?_, by omega, ?_⟩
    · simp only [h, decide_true, cond_true]
      rw [aJ (by decide), hd, dB (n := n + 16) (by omega) (by omega), e]
      congr 1; omega
    · rw [Int.pow_add]; have : (2 : Int) ^ 16 = 65536 := by decide
      rw [this]; omega
  · obtain ⟨k, e, h3, h4⟩ := WO (x := x) (n := n) h1 (by omega) (by omega)
    exact ⟨k, by simp only [h, decide_false, cond_false, e], by omega, h4⟩

theorem VC {x : Int} (h1 : 1 ≤ x) (h2 : x ≤ 9223372036854775807) : ∃ k : Nat, jX x = some ((k : Int) + 1) ∧ k ≤ 63 ∧ (2 : Int) ^ k ≤ x := by
  unfold jX nP
  by_cases h : 4294967296 ≤ x
  · have hd : Int.fdiv x (2 ^ (min (Int.toNat (32 : Int)) 64)) = x / 4294967296 := by rw [show (2 ^ (min (Int.toNat (32 : Int)) 64) : Int) = 4294967296 from by decide]; exact GI (by omega)
    obtain ⟨k, e, h3, h4⟩ := US (x := x / 4294967296) (n := 32) (by omega) (by omega) (by omega)
    refine ⟨k + 32, ?_, by omega, ?_⟩
    · simp only [h, decide_true, cond_true]
      rw [aJ (by decide), hd, e]
      simp only [Option.bind_some]
      congr 1; omega
    · rw [Int.pow_add]; have : (2 : Int) ^ 32 = 4294967296 := by decide
      rw [this]; omega
  · obtain ⟨k, e, h3, h4⟩ := US (x := x) (n := 0) h1 (by omega) (by omega)
    refine ⟨k, ?_, by omega, h4⟩
    simp only [h, decide_false, cond_false, e, Option.bind_some]
    congr 1; omega

theorem TY : bt GR 0 = 0 := by decide +kernel

theorem WW : jX 0 = some 0 := by
  have h3 : lW 0 0 = some 0 := by
    show (bA (0 ≤ (IntKind.u8.wrap 0) ∧ (IntKind.u8.wrap 0) < ((ByteArray.size GR : Nat) : Int)) <| some (IntKind.i64.wrap (0 + (IntKind.i64.wrap (bt GR (IntKind.u8.wrap 0)))))) = _
    rw [YZ (by omega) (by omega), aJ (by rw [KX]; omega), TY, dB (n := 0) (by omega) (by omega), dB (by omega) (by omega)]
    rfl
  have h2 : kN 0 0 = some 0 := h3
  have h1 : kL 0 0 = some 0 := h2
  unfold jX nP
  have : decide ((4294967296 : Int) ≤ 0) = false := by decide
  rw [this, cond_false, h1]
  rfl

theorem XJ {n : Nat} (h1 : 1 ≤ n) (h2 : n < 2305843009213693951) : ∃ m : Int, kS (n : Int) = some m ∧ 1 ≤ m ∧ m ≤ 2 * n := by
  unfold kS
  rw [EN (by omega) (by omega)]
  obtain ⟨k, e, h3, h4⟩ := VC (x := (n : Int)) (by omega) (by omega)
  have hk : (2 : Int) ^ (k + 1) = 2 * 2 ^ k := by rw [Int.pow_succ]; omega
  have hp : (1 : Int) ≤ 2 ^ k := by
    have : (0 : Int) < 2 ^ k := Int.pow_pos (by decide)
    omega
  rw [e]
  simp only [Option.bind_some]
  rw [aJ (by omega), show min (Int.toNat ((k : Int) + 1)) 64 = k + 1 by omega, Int.one_mul, hk, EN (by omega) (by omega)]
  exact ⟨_, rfl, by omega, by omega⟩

theorem aAB (x : Int) {m : Int} (h0 : 0 ≤ m) (hm : m ≤ 9223372036854775807) : 0 ≤ bR .and .u64 x m ∧ bR .and .u64 x m ≤ m := by
  have h1 : (BitVec.ofInt IntKind.u64.bits x &&& BitVec.ofInt IntKind.u64.bits m).toNat ≤ m.toNat := by
    rw [BitVec.toNat_and]
    refine Nat.le_trans Nat.and_le_right ?_
    rw [BitVec.toNat_ofInt]
    have : IntKind.u64.bits = 64 := rfl
    rw [this]
    omega
  have h2 : bR .and .u64 x m = ((BitVec.ofInt IntKind.u64.bits x &&& BitVec.ofInt IntKind.u64.bits m).toNat : Int) := EN (by omega) (by omega)
  rw [h2]
  omega

theorem TQ (r : Int) : ∃ x, kZ r = some x := by
  unfold kZ
  rw [aJ (by decide), aJ (by decide), aJ (by decide)]
  exact ⟨_, rfl⟩

theorem WI {lo i o : Nat} {d : List Int} (l r m : Int) (hi : i < d.length) (ho : lo + o < d.length) (hl : d.length < 2305843009213693951) :
    eV d (lo : Nat) l r m (i : Nat) (o : Nat) = some (.inl (swp d i (lo + o), r, ((i + 1 : Nat) : Int))) := by
  unfold eV
  rw [wrN (x := (lo : Int) + (o : Int)) (n := lo + o) (by omega) (by omega), wrN (n := i + 1) (by omega) (by omega)]
  simp only [Int.toNat_natCast]
  rw [aJ (asN (by omega)), aJ (asN (by omega)), aJ (asN (by omega)), aJ (asN (by omega))]
  rfl

theorem aAP {lo n : Nat} {m : Int} (hm : 1 ≤ m ∧ m ≤ 2 * n) (h8 : 8 ≤ n) : ∀ (q i : Nat) (r : Int) (d : List Int), lo + n / 4 * 2 + 2 - i = q → lo ≤ i → i ≤ lo + n / 4 * 2 + 2 → lo + n ≤ d.length → d.length < 2305843009213693951 →
    ∃ d', lp (fun s : List Int × Int × Int => cZ (lo : Nat) (n : Nat) m s.1 s.2.1 s.2.2) (d, r, (i : Int)) = some d' ∧ Rel lo (lo + n) d d' := by
  have t4 : IntKind.i64.wrap (Int.tdiv (n : Int) 4) = ((n / 4 : Nat) : Int) ∨ 2305843009213693951 ≤ n := by
    by_cases h : n < 2305843009213693951
    · left
      have : Int.tdiv (n : Int) 4 = ((n / 4 : Nat) : Int) := by rw [Int.tdiv_eq_ediv_of_nonneg (by omega)]; omega
      rw [this]; exact wrN rfl (by omega)
    · right; omega
  intro q
  induction q with
  | zero =>
    intro i r d h1 h2 h3 h4 h5
    have t4 := t4.resolve_right (by omega)
    refine ⟨d, cQ ?_, Rel.refl ..⟩
    show cZ _ _ _ _ _ _ = _
    unfold cZ
    rw [aJ (by decide), t4, wrN (x := ((n / 4 : Nat) : Int) * 2) (n := n / 4 * 2) (by omega) (by omega), wrN (x := (lo : Int) + ((n / 4 * 2 : Nat) : Int)) (n := lo + n / 4 * 2) (by omega) (by omega), wrN (x := ((lo + n / 4 * 2 : Nat) : Int) + 1) (n := lo + n / 4 * 2 + 1) (by omega) (by omega)]
    have : decide (((i : Nat) : Int) ≤ ((lo + n / 4 * 2 + 1 : Nat) : Int)) = false := by simp; omega
    rw [this, cond_false]
  | succ q ih =>
    intro i r d h1 h2 h3 h4 h5
    have t4 := t4.resolve_right (by omega)
    obtain ⟨x, hx⟩ := TQ r
    obtain ⟨a1, a2⟩ := aAB x.1 (m := m - 1) (by omega) (by omega)
    have hd : decide (((i : Nat) : Int) ≤ ((lo + n / 4 * 2 + 1 : Nat) : Int)) = true := by simp; omega
    have step : ∃ o, o < n ∧ cZ (lo : Nat) (n : Nat) m d r (i : Nat) = some (.inl (swp d i (lo + o), x.2, ((i + 1 : Nat) : Int))) := by
      unfold cZ
      rw [aJ (by decide), t4, wrN (x := ((n / 4 : Nat) : Int) * 2) (n := n / 4 * 2) (by omega) (by omega), wrN (x := (lo : Int) + ((n / 4 * 2 : Nat) : Int)) (n := lo + n / 4 * 2) (by omega) (by omega), wrN (x := ((lo + n / 4 * 2 : Nat) : Int) + 1) (n := lo + n / 4 * 2 + 1) (by omega) (by omega), hd, cond_true, hx]
      simp only [Option.bind_some]
      rw [EN (x := m - 1) (by omega) (by omega)]
      have e1 : IntKind.i64.wrap (bR .and .u64 x.1 (m - 1)) = (((bR .and .u64 x.1 (m - 1)).toNat : Nat) : Int) := wrN (by omega) (by omega)
      rw [e1]
      by_cases h : (n : Int) ≤ (((bR .and .u64 x.1 (m - 1)).toNat : Nat) : Int)
      · refine ⟨(bR .and .u64 x.1 (m - 1)).toNat - n, by omega, ?_⟩
        simp only [h, decide_true, cond_true]
        rw [wrN (x := (((bR .and .u64 x.1 (m - 1)).toNat : Nat) : Int) - (n : Int)) (n := (bR .and .u64 x.1 (m - 1)).toNat - n) (by omega) (by omega)]
        exact WI _ _ _ (by omega) (by omega) h5
      · refine ⟨(bR .and .u64 x.1 (m - 1)).toNat, by omega, ?_⟩
        simp only [h, decide_false, cond_false]
        exact WI _ _ _ (by omega) (by omega) h5
    obtain ⟨o, ho, hs⟩ := step
    obtain ⟨d', e, rl⟩ := ih (i + 1) x.2 (swp d i (lo + o)) (by omega) (by omega) (by omega) (by rw [gM]; exact h4) (by rw [gM]; exact h5)
    exact ⟨d', (fB (show (fun s : List Int × Int × Int => cZ (lo : Nat) (n : Nat) m s.1 s.2.1 s.2.2) (d, r, (i : Int)) = _ from hs)).trans e, (Rel.swp (i := i) (j := lo + o) (by omega) (by omega) (by omega) (by omega)).trans rl⟩

theorem UX {lo hi : Nat} {d : List Int} (h8 : 8 ≤ hi - lo) (h1 : hi ≤ d.length) (h2 : d.length < 2305843009213693951) : ∃ d', gJ d (lo : Int) (hi : Int) = some d' ∧ Rel lo hi d d' := by
  unfold gJ
  have e1 : IntKind.i64.wrap ((hi : Int) - (lo : Int)) = ((hi - lo : Nat) : Int) := wrN (by omega) (by omega)
  have d1 : decide ((8 : Int) ≤ ((hi - lo : Nat) : Int)) = true := by simp; omega
  obtain ⟨m, em, m1, m2⟩ := XJ (n := hi - lo) (by omega) (by omega)
  have t4 : IntKind.i64.wrap (Int.tdiv ((hi - lo : Nat) : Int) 4) = (((hi - lo) / 4 : Nat) : Int) := by
    have : Int.tdiv ((hi - lo : Nat) : Int) 4 = (((hi - lo) / 4 : Nat) : Int) := by rw [Int.tdiv_eq_ediv_of_nonneg (by omega)]; omega
    rw [this]; exact wrN rfl (by omega)
  rw [e1, d1, cond_true, em]
  simp only [Option.bind_some]
  rw [aJ (by decide), t4, wrN (x := (((hi - lo) / 4 : Nat) : Int) * 2) (n := (hi - lo) / 4 * 2) (by omega) (by omega), wrN (x := (lo : Int) + (((hi - lo) / 4 * 2 : Nat) : Int)) (n := lo + (hi - lo) / 4 * 2) (by omega) (by omega), wrN (x := ((lo + (hi - lo) / 4 * 2 : Nat) : Int) - 1) (n := lo + (hi - lo) / 4 * 2 - 1) (by omega) (by omega)]
  unfold jB
  obtain ⟨d', e, r⟩ := aAP (lo := lo) (n := hi - lo) (m := m) ⟨m1, m2⟩ h8 (lo + (hi - lo) / 4 * 2 + 2 - (lo + (hi - lo) / 4 * 2 - 1)) (lo + (hi - lo) / 4 * 2 - 1) (IntKind.u64.wrap ((hi - lo : Nat) : Int)) d rfl (by omega) (by omega) (by omega) h2
  rw [e]
  have : lo + (hi - lo) = hi := by omega
  rw [this] at r
  exact ⟨d', rfl, r⟩

theorem XG {a b : Nat} {d : List Int} (s : Int) (ha : a < d.length) (hb : b < d.length) : ∃ (p q : Nat) (s' : Int), fT d (a : Int) (b : Int) s = some (((p : Int), (q : Int)), s') ∧ ((p = a ∧ q = b) ∨ (p = b ∧ q = a)) := by
  unfold fT
  rw [aJ (asN hb), aJ (asN ha), rD]
  simp only [Option.bind_some]
  cases decide (d.getD (Int.toNat (b : Int)) default < d.getD (Int.toNat (a : Int)) default)
  · exact ⟨a, b, _, rfl, .inl ⟨rfl, rfl⟩⟩
  · exact ⟨b, a, _, rfl, .inr ⟨rfl, rfl⟩⟩

theorem med {a b c : Nat} {d : List Int} (s : Int) (ha : a < d.length) (hb : b < d.length) (hc : c < d.length) : ∃ (p : Nat) (s' : Int), iD d (a : Int) (b : Int) (c : Int) s = some ((p : Int), s') ∧ (p = a ∨ p = b ∨ p = c) := by
  unfold iD
  obtain ⟨p1, q1, s1, e1, h1⟩ := XG s ha hb
  obtain ⟨p2, q2, s2, e2, h2⟩ := XG (a := q1) (b := c) (d := d) s1 (by omega) hc
  obtain ⟨p3, q3, s3, e3, h3⟩ := XG (a := p1) (b := p2) (d := d) s2 (by omega) (by omega)
  rw [e1]; simp only [Option.bind_some]
  rw [e2]; simp only [Option.bind_some]
  rw [e3]
  exact ⟨q3, s3, rfl, by omega⟩

theorem XO {a : Nat} {d : List Int} (s : Int) (h1 : 1 ≤ a) (ha : a + 1 < d.length) (hl : d.length < 2305843009213693951) : ∃ (p : Nat) (s' : Int), dX d (a : Int) s = some ((p : Int), s') ∧ a - 1 ≤ p ∧ p ≤ a + 1 := by
  unfold dX
  rw [wrN (x := (a : Int) - 1) (n := a - 1) (by omega) (by omega), wrN (x := (a : Int) + 1) (n := a + 1) (by omega) (by omega)]
  obtain ⟨p, s', e, h⟩ := med (a := a - 1) (b := a) (c := a + 1) (d := d) s (by omega) (by omega) (by omega)
  rw [e]
  exact ⟨p, s', rfl, by omega, by omega⟩

theorem YV (d : List Int) (s : Int) (j : Int) : ∃ h, fE d s j = some (j, h) := by
  unfold fE
  cases decide (s = 0) <;> cases decide (s = 12) <;> exact ⟨_, rfl⟩

theorem SL {lo hi : Nat} {d : List Int} (h8 : 12 < hi - lo) (h1 : hi ≤ d.length) (h2 : d.length < 2305843009213693951) : ∃ (p : Nat) (h : Int), gX d (lo : Int) (hi : Int) = some ((p : Int), h) ∧ lo ≤ p ∧ p < hi := by
  unfold gX
  have e1 : IntKind.i64.wrap ((hi : Int) - (lo : Int)) = ((hi - lo : Nat) : Int) := wrN (by omega) (by omega)
  have t4 : IntKind.i64.wrap (Int.tdiv ((hi - lo : Nat) : Int) 4) = (((hi - lo) / 4 : Nat) : Int) := by
    have : Int.tdiv ((hi - lo : Nat) : Int) 4 = (((hi - lo) / 4 : Nat) : Int) := by rw [Int.tdiv_eq_ediv_of_nonneg (by omega)]; omega
    rw [this]; exact wrN rfl (by omega)
  have d1 : decide ((8 : Int) ≤ ((hi - lo : Nat) : Int)) = true := by simp; omega
  have q1 : IntKind.i64.wrap ((lo : Int) + IntKind.i64.wrap ((((hi - lo) / 4 : Nat) : Int) * 1)) = ((lo + (hi - lo) / 4 : Nat) : Int) := by
    rw [wrN (x := (((hi - lo) / 4 : Nat) : Int) * 1) (n := (hi - lo) / 4) (by omega) (by omega)]; exact wrN (by omega) (by omega)
  have q2 : IntKind.i64.wrap ((lo : Int) + IntKind.i64.wrap ((((hi - lo) / 4 : Nat) : Int) * 2)) = ((lo + (hi - lo) / 4 * 2 : Nat) : Int) := by
    rw [wrN (x := (((hi - lo) / 4 : Nat) : Int) * 2) (n := (hi - lo) / 4 * 2) (by omega) (by omega)]; exact wrN (by omega) (by omega)
  have q3 : IntKind.i64.wrap ((lo : Int) + IntKind.i64.wrap ((((hi - lo) / 4 : Nat) : Int) * 3)) = ((lo + (hi - lo) / 4 * 3 : Nat) : Int) := by
    rw [wrN (x := (((hi - lo) / 4 : Nat) : Int) * 3) (n := (hi - lo) / 4 * 3) (by omega) (by omega)]; exact wrN (by omega) (by omega)
  rw [aJ (by decide), aJ (by decide), aJ (by decide)]
  simp only [e1, t4, d1, q1, q2, q3, cond_true]
  by_cases h50 : (50 : Int) ≤ ((hi - lo : Nat) : Int)
  · simp only [h50, decide_true, cond_true]
    obtain ⟨p1, s1, f1, g1, g2⟩ := XO (a := lo + (hi - lo) / 4) (d := d) 0 (by omega) (by omega) h2
    obtain ⟨p2, s2, f2, g3, g4⟩ := XO (a := lo + (hi - lo) / 4 * 2) (d := d) s1 (by omega) (by omega) h2
    obtain ⟨p3, s3, f3, g5, g6⟩ := XO (a := lo + (hi - lo) / 4 * 3) (d := d) s2 (by omega) (by omega) h2
    obtain ⟨p4, s4, f4, g7⟩ := med (a := p1) (b := p2) (c := p3) (d := d) s3 (by omega) (by omega) (by omega)
    obtain ⟨h, f5⟩ := YV d s4 p4
    rw [f1]; simp only [Option.bind_some]
    rw [f2]; simp only [Option.bind_some]
    rw [f3]; simp only [Option.bind_some, fH]
    rw [f4]; simp only [Option.bind_some]
    exact ⟨p4, h, f5, by omega, by omega⟩
  · simp only [h50, decide_false, cond_false, fH]
    obtain ⟨p4, s4, f4, g7⟩ := med (a := lo + (hi - lo) / 4) (b := lo + (hi - lo) / 4 * 2) (c := lo + (hi - lo) / 4 * 3) (d := d) 0 (by omega) (by omega) (by omega)
    obtain ⟨h, f5⟩ := YV d s4 p4
    rw [f4]; simp only [Option.bind_some]
    exact ⟨p4, h, f5, by omega, by omega⟩

end Go.Abs
namespace Go.Abs
open Go
theorem JH {body : List Int × Int → Option ((List Int × Int) ⊕ (List Int × Int))} {d : List Int} {p : Nat → Prop} [DecidablePred p] {j : Nat}
    (hs : ∀ i, i ≤ j + 1 → body (d, (i : Int)) = if i ≤ j ∧ p i then some (.inl (d, ((i + 1 : Nat) : Int))) else some (.inr (d, (i : Int)))) :
    ∀ (n i : Nat), j + 1 - i = n → i ≤ j + 1 → ∃ i' : Nat, lp body (d, (i : Int)) = some (d, (i' : Int)) ∧ i ≤ i' ∧ i' ≤ j + 1 ∧ (∀ k, i ≤ k → k < i' → p k) ∧ (i' ≤ j → ¬ p i') := by
  intro n
  induction n with
  | zero =>
    intro i h1 h2
    have := hs i h2
    rw [if_neg (by omega)] at this
    exact ⟨i, cQ this, Nat.le_refl _, h2, fun k a b => by omega, fun h => by omega⟩
  | succ n ih =>
    intro i h1 h2
    have h := hs i h2
    by_cases hp : p i
    · rw [if_pos ⟨by omega, hp⟩] at h
      obtain ⟨i', e, a1, a2, a3, a4⟩ := ih (i + 1) (by omega) (by omega)
      refine ⟨i', (fB h).trans e, by omega, a2, fun k b1 b2 => ?_, a4⟩
      by_cases hk : k = i
      · rw [hk]; exact hp
      · exact a3 k (by omega) b2
    · rw [if_neg fun hh => hp hh.2] at h
      exact ⟨i, cQ h, Nat.le_refl _, h2, fun k a b => by omega, fun _ => hp⟩

theorem CV {body : List Int × Int → Option ((List Int × Int) ⊕ (List Int × Int))} {d : List Int} {p : Nat → Prop} [DecidablePred p] {i m : Nat} (hi : 1 ≤ i)
    (hs : ∀ j, j ≤ m → body (d, (j : Int)) = if i ≤ j ∧ p j then some (.inl (d, ((j - 1 : Nat) : Int))) else some (.inr (d, (j : Int)))) :
    ∀ (j : Nat), j ≤ m → i ≤ j + 1 → ∃ j' : Nat, lp body (d, (j : Int)) = some (d, (j' : Int)) ∧ i ≤ j' + 1 ∧ j' ≤ j ∧ (∀ k, j' < k → k ≤ j → p k) ∧ (i ≤ j' → ¬ p j') := by
  intro j
  induction j with
  | zero =>
    intro h1 h2
    have := hs 0 h1
    rw [if_neg (by omega)] at this
    exact ⟨0, cQ this, by omega, Nat.le_refl _, fun k a b => by omega, fun h => by omega⟩
  | succ j ih =>
    intro h1 h2
    have h := hs (j + 1) h1
    by_cases hp : i ≤ j + 1 ∧ p (j + 1)
    · rw [if_pos hp] at h
      obtain ⟨j', e, a1, a2, a3, a4⟩ := ih (by omega) (by omega)
      refine ⟨j', (fB h).trans e, a1, by omega, fun k b1 b2 => ?_, a4⟩
      by_cases hk : k = j + 1
      · rw [hk]; exact hp.2
      · exact a3 k b1 (by omega)
    · rw [if_neg hp] at h
      exact ⟨j + 1, cQ h, by omega, Nat.le_refl _, fun k a b => by omega, fun h1 h2 => hp ⟨h1, h2⟩⟩

theorem RN {α : Type} {i j u v : Nat} {d : List Int} {n : Bool} {x y : Option α} (hu : i ≤ j → u < d.length) (hv : i ≤ j → v < d.length) :
    (bA ((decide ((i : Int) ≤ (j : Int))) = true → 0 ≤ (u : Int) ∧ (u : Int) < ((List.length d : Nat) : Int)) <|
    bA ((decide ((i : Int) ≤ (j : Int))) = true → 0 ≤ (v : Int) ∧ (v : Int) < ((List.length d : Nat) : Int)) <|
    (cV (decide ((i : Int) ≤ (j : Int))) (cW (List.getD d (Int.toNat (u : Int)) default) (List.getD d (Int.toNat (v : Int)) default))).bind fun z =>
    cond ((decide ((i : Int) ≤ (j : Int))) && (Bool.xor n z)) x y) = if i ≤ j ∧ (Bool.xor n (decide (gN d u < gN d v))) = true then x else y := by
  by_cases h : i ≤ j
  · have hd : decide ((i : Int) ≤ (j : Int)) = true := by simp; omega
    rw [hd]
    rw [aJ fun _ => asN (hu h), aJ fun _ => asN (hv h)]
    simp only [cV, cond_true, rD, Option.bind_some, Bool.true_and, Int.toNat_natCast, h, true_and, gN]
    cases Bool.xor n (decide (d.getD u default < d.getD v default)) <;> simp
  · have hd : decide ((i : Int) ≤ (j : Int)) = false := by simp; omega
    rw [hd, aJ (fun h => by cases h), aJ (fun h => by cases h)]
    simp [cV, h]

theorem GV {α : Type} {i j u v : Nat} {d : List Int} {x y : Option α} (hu : i ≤ j → u < d.length) (hv : i ≤ j → v < d.length) :
    (bA ((decide ((i : Int) ≤ (j : Int))) = true → 0 ≤ (u : Int) ∧ (u : Int) < ((List.length d : Nat) : Int)) <|
    bA ((decide ((i : Int) ≤ (j : Int))) = true → 0 ≤ (v : Int) ∧ (v : Int) < ((List.length d : Nat) : Int)) <|
    (cV (decide ((i : Int) ≤ (j : Int))) (cW (List.getD d (Int.toNat (u : Int)) default) (List.getD d (Int.toNat (v : Int)) default))).bind fun z =>
    cond ((decide ((i : Int) ≤ (j : Int))) && z) x y) = if i ≤ j ∧ gN d u < gN d v then x else y := by
  have := RN (n := false) (x := x) (y := y) hu hv
  simp only [Bool.false_xor] at this
  exact this.trans (by simp)

theorem GU {α : Type} {i j u v : Nat} {d : List Int} {x y : Option α} (hu : i ≤ j → u < d.length) (hv : i ≤ j → v < d.length) :
    (bA ((decide ((i : Int) ≤ (j : Int))) = true → 0 ≤ (u : Int) ∧ (u : Int) < ((List.length d : Nat) : Int)) <|
    bA ((decide ((i : Int) ≤ (j : Int))) = true → 0 ≤ (v : Int) ∧ (v : Int) < ((List.length d : Nat) : Int)) <|
    (cV (decide ((i : Int) ≤ (j : Int))) (cW (List.getD d (Int.toNat (u : Int)) default) (List.getD d (Int.toNat (v : Int)) default))).bind fun z =>
    cond ((decide ((i : Int) ≤ (j : Int))) && (!z)) x y) = if i ≤ j ∧ ¬ gN d u < gN d v then x else y := by
  have := RN (n := true) (x := x) (y := y) hu hv
  simp only [Bool.true_xor] at this
  exact this.trans (by simp)

theorem aAc {a j : Nat} {d : List Int} (ha : a < d.length) (hj : j < d.length) (hl : d.length < 2305843009213693951) : ∀ i, i ≤ j + 1 → eG (a : Nat) (j : Nat) d (i : Nat) = if i ≤ j ∧ gN d i < gN d a then some (.inl (d, ((i + 1 : Nat) : Int))) else some (.inr (d, (i : Int))) := by
  intro i hi
  unfold eG
  rw [wrN (x := (i : Int) + 1) (n := i + 1) (by omega) (by omega)]
  exact GV (u := i) (v := a) (by omega) (by omega)

theorem XB {a j : Nat} {d : List Int} (ha : a < d.length) (hj : j < d.length) (hl : d.length < 2305843009213693951) : ∀ i, i ≤ j + 1 → eN (a : Nat) (j : Nat) d (i : Nat) = if i ≤ j ∧ gN d i < gN d a then some (.inl (d, ((i + 1 : Nat) : Int))) else some (.inr (d, (i : Int))) := by
  intro i hi
  unfold eN
  rw [wrN (x := (i : Int) + 1) (n := i + 1) (by omega) (by omega)]
  exact GV (u := i) (v := a) (by omega) (by omega)

theorem UQ {a i m : Nat} {d : List Int} (hi : 1 ≤ i) (ha : a < d.length) (hm : m < d.length) (hl : d.length < 2305843009213693951) : ∀ j, j ≤ m → eK (a : Nat) (i : Nat) d (j : Nat) = if i ≤ j ∧ ¬ gN d j < gN d a then some (.inl (d, ((j - 1 : Nat) : Int))) else some (.inr (d, (j : Int))) := by
  intro j hj
  unfold eK
  refine (GU (i := i) (j := j) (d := d) (α := (List Int × Int) ⊕ (List Int × Int)) (u := j) (v := a) (x := some (.inl (d, IntKind.i64.wrap ((j : Int) - 1)))) (y := some (.inr (d, (j : Int)))) (by omega) (by omega)).trans ?_
  by_cases h : i ≤ j ∧ ¬ gN d j < gN d a
  · rw [if_pos h, if_pos h, wrN (x := (j : Int) - 1) (n := j - 1) (by omega) (by omega)]
  · rw [if_neg h, if_neg h]

theorem SC {a i m : Nat} {d : List Int} (hi : 1 ≤ i) (ha : a < d.length) (hm : m < d.length) (hl : d.length < 2305843009213693951) : ∀ j, j ≤ m → eS (a : Nat) (i : Nat) d (j : Nat) = if i ≤ j ∧ ¬ gN d j < gN d a then some (.inl (d, ((j - 1 : Nat) : Int))) else some (.inr (d, (j : Int))) := by
  intro j hj
  unfold eS
  refine (GU (i := i) (j := j) (d := d) (α := (List Int × Int) ⊕ (List Int × Int)) (u := j) (v := a) (x := some (.inl (d, IntKind.i64.wrap ((j : Int) - 1)))) (y := some (.inr (d, (j : Int)))) (by omega) (by omega)).trans ?_
  by_cases h : i ≤ j ∧ ¬ gN d j < gN d a
  · rw [if_pos h, if_pos h, wrN (x := (j : Int) - 1) (n := j - 1) (by omega) (by omega)]
  · rw [if_neg h, if_neg h]

theorem XR {a j : Nat} {d : List Int} (ha : a < d.length) (hj : j < d.length) (hl : d.length < 2305843009213693951) : ∀ i, i ≤ j + 1 → dP (a : Nat) (j : Nat) d (i : Nat) = if i ≤ j ∧ ¬ gN d a < gN d i then some (.inl (d, ((i + 1 : Nat) : Int))) else some (.inr (d, (i : Int))) := by
  intro i hi
  unfold dP
  rw [wrN (x := (i : Int) + 1) (n := i + 1) (by omega) (by omega)]
  exact GU (u := a) (v := i) (by omega) (by omega)

theorem TS {a i m : Nat} {d : List Int} (hi : 1 ≤ i) (ha : a < d.length) (hm : m < d.length) (hl : d.length < 2305843009213693951) : ∀ j, j ≤ m → dQ (a : Nat) (i : Nat) d (j : Nat) = if i ≤ j ∧ gN d a < gN d j then some (.inl (d, ((j - 1 : Nat) : Int))) else some (.inr (d, (j : Int))) := by
  intro j hj
  unfold dQ
  refine (GV (i := i) (j := j) (d := d) (α := (List Int × Int) ⊕ (List Int × Int)) (u := a) (v := j) (x := some (.inl (d, IntKind.i64.wrap ((j : Int) - 1)))) (y := some (.inr (d, (j : Int)))) (by omega) (by omega)).trans ?_
  by_cases h : i ≤ j ∧ gN d a < gN d j
  · rw [if_pos h, if_pos h, wrN (x := (j : Int) - 1) (n := j - 1) (by omega) (by omega)]
  · rw [if_neg h, if_neg h]

structure yB (a b i j : Nat) (d : List Int) : Prop where
  hi : a < i
  hij : i ≤ j + 1
  hj : j < b
  lo : ∀ k, a < k → k < i → gN d k < gN d a
  up : ∀ k, j < k → k < b → gN d a ≤ gN d k

theorem yB.swap {a b i j : Nat} {d : List Int} (h : yB a b i j d) (hb : b ≤ d.length) (hij : i < j) (h1 : gN d a ≤ gN d i) (h2 : gN d j < gN d a) : yB a b (i + 1) (j - 1) (swp d i j) := by
  have := h.hi; have := h.hj
  have g := sE (d := d) (i := i) (j := j) (by omega) (by omega)
  have ga : gN (swp d i j) a = gN d a := by rw [g, if_neg (by omega), if_neg (by omega)]
  refine ⟨by omega, by omega, by omega, fun k k1 k2 => ?_, fun k k1 k2 => ?_⟩
  · rw [ga, g, if_neg (by omega)]
    by_cases hk : k = i
    · rw [if_pos hk]; exact h2
    · rw [if_neg hk]; exact h.lo k k1 (by omega)
  · rw [ga, g]
    by_cases hk : k = j
    · rw [if_pos hk]; exact h1
    · rw [if_neg hk, if_neg (by omega)]; exact h.up k (by omega) k2

theorem HE {a b i j : Nat} {d : List Int} (h : yB a b i j d) (hb : b ≤ d.length) (hl : d.length < 2305843009213693951) : ∃ i' j' : Nat, yB a b i' j' d ∧ i ≤ i' ∧ j' ≤ j ∧ (j' < i' → j' + 1 = i') ∧ (i' ≤ j' → i' < j' ∧ gN d a ≤ gN d i' ∧ gN d j' < gN d a) ∧
    dK (a : Nat) d (i : Nat) (j : Nat) = eM d (a : Nat) (i' : Nat) (j' : Nat) ∧ fN d (a : Nat) (i : Nat) (j : Nat) = eT d (a : Nat) (i' : Nat) (j' : Nat) := by
  have h1 := h.hi; have h2 := h.hij; have h3 := h.hj
  obtain ⟨i', e1, a1, a2, a3, a4⟩ := JH (body := fun s => eN (a : Nat) (j : Nat) s.1 s.2) (d := d) (p := fun k => gN d k < gN d a) (j := j) (XB (a := a) (j := j) (d := d) (by omega) (by omega) hl) (j + 1 - i) i rfl h2
  obtain ⟨i2, e1', b1, b2, b3, b4⟩ := JH (body := fun s => eG (a : Nat) (j : Nat) s.1 s.2) (d := d) (p := fun k => gN d k < gN d a) (j := j) (aAc (a := a) (j := j) (d := d) (by omega) (by omega) hl) (j + 1 - i) i rfl h2
  have hii : i2 = i' := by
    rcases Nat.lt_trichotomy i2 i' with hh | hh | hh
    · exact absurd (a3 i2 b1 hh) (b4 (by omega))
    · exact hh
    · exact absurd (b3 i' a1 hh) (a4 (by omega))
  subst hii
  obtain ⟨j', f1, c1, c2, c3, c4⟩ := CV (body := fun s => eS (a : Nat) (i2 : Nat) s.1 s.2) (d := d) (p := fun k => ¬ gN d k < gN d a) (i := i2) (m := j) (by omega) (SC (a := a) (i := i2) (m := j) (d := d) (by omega) (by omega) (by omega) hl) j (Nat.le_refl _) a2
  obtain ⟨j2, f1', g1, g2, g3, g4⟩ := CV (body := fun s => eK (a : Nat) (i2 : Nat) s.1 s.2) (d := d) (p := fun k => ¬ gN d k < gN d a) (i := i2) (m := j) (by omega) (UQ (a := a) (i := i2) (m := j) (d := d) (by omega) (by omega) (by omega) hl) j (Nat.le_refl _) a2
  have hjj : j2 = j' := by
    rcases Nat.lt_trichotomy j2 j' with hh | hh | hh
    · exact absurd (g3 j' hh c2) (c4 (by omega))
    · exact hh
    · exact absurd (c3 j2 hh g2) (g4 (by omega))
  subst hjj
  have hend : i2 ≤ j2 → i2 < j2 ∧ gN d a ≤ gN d i2 ∧ gN d j2 < gN d a := fun hh => by
    have k1 : ¬ gN d i2 < gN d a := a4 (by omega)
    have k2 : gN d j2 < gN d a := Classical.byContradiction fun hn => c4 hh hn
    refine ⟨?_, by omega, k2⟩
    rcases Nat.lt_or_ge i2 j2 with h | h
    · exact h
    · have : i2 = j2 := by omega
      rw [this] at k1; exact absurd k2 k1
  refine ⟨i2, j2, ⟨by omega, by omega, by omega, fun k k1 k2 => ?_, fun k k1 k2 => ?_⟩, a1, c2, fun hh => by omega, hend, ?_, ?_⟩
  · by_cases hk : k < i
    · exact h.lo k k1 hk
    · exact a3 k (by omega) k2
  · by_cases hk : j < k
    · exact h.up k hk k2
    · have := c3 k k1 (by omega); omega
  · unfold dK kB
    rw [show lp (fun s : List Int × Int => eN (a : Nat) (j : Nat) s.1 s.2) (d, (i : Int)) = some (d, (i2 : Int)) from e1]
    simp only [Option.bind_some]
    unfold iJ jY
    rw [show lp (fun s : List Int × Int => eS (a : Nat) (i2 : Nat) s.1 s.2) (d, (j : Int)) = some (d, (j2 : Int)) from f1]
    rfl
  · unfold fN
    rw [show lp (fun s : List Int × Int => eG (a : Nat) (j : Nat) s.1 s.2) (d, (i : Int)) = some (d, (i2 : Int)) from e1']
    simp only [Option.bind_some]
    unfold iF kC
    rw [show lp (fun s : List Int × Int => eK (a : Nat) (i2 : Nat) s.1 s.2) (d, (j : Int)) = some (d, (j2 : Int)) from f1']
    rfl

theorem yB.rel {a b i j : Nat} {d : List Int} (h : yB a b i j d) (hb : b ≤ d.length) (hij : i ≤ j) : Rel (a + 1) b d (swp d i j) := by
  have := h.hi; have := h.hj
  exact Rel.swp (i := i) (j := j) (by omega) (by omega) (by omega) (by omega)

theorem aAb {a b : Nat} : ∀ (n i j : Nat) (d : List Int), j + 1 - i = n → b ≤ d.length → d.length < 2305843009213693951 → yB a b i j d →
    ∃ (d' : List Int) (j' : Nat), lp (fun s : List Int × Int × Int => dK (a : Nat) s.1 s.2.1 s.2.2) (d, (i : Int), (j : Int)) = some (d', (j' : Int)) ∧ Rel (a + 1) b d d' ∧ yB a b (j' + 1) j' d' := by
  intro n
  induction n using Nat.strongRecOn with
  | ind n ih =>
    intro i j d h1 h2 h3 h
    obtain ⟨i', j', p1, p2, p3, p4, p5, p6, _⟩ := HE h h2 h3
    have q1 := p1.hi; have q2 := p1.hj; have q3 := p1.hij
    by_cases hlt : j' < i'
    · have hs : dK (a : Nat) d (i : Nat) (j : Nat) = some (.inr (d, (j' : Int))) := by
        rw [p6]
        unfold eM
        have : decide ((j' : Int) < (i' : Int)) = true := by simp; omega
        rw [this, cond_true]
      have := p4 hlt
      exact ⟨d, j', cQ hs, Rel.refl .., by rw [this]; exact p1⟩
    · obtain ⟨k1, k2, k3⟩ := p5 (by omega)
      have hs : dK (a : Nat) d (i : Nat) (j : Nat) = some (.inl (swp d i' j', ((i' + 1 : Nat) : Int), ((j' - 1 : Nat) : Int))) := by
        rw [p6]
        unfold eM
        have : decide ((j' : Int) < (i' : Int)) = false := by simp; omega
        rw [this, cond_false]
        simp only [Int.toNat_natCast]
        rw [aJ (asN (by omega)), aJ (asN (by omega)), aJ (asN (by omega)), aJ (asN (by omega)), wrN (x := (i' : Int) + 1) (n := i' + 1) (by omega) (by omega), wrN (x := (j' : Int) - 1) (n := j' - 1) (by omega) (by omega)]
        rfl
      obtain ⟨d', j2, e, r, p⟩ := ih (j' - 1 + 1 - (i' + 1)) (by omega) (i' + 1) (j' - 1) (swp d i' j') rfl (by rw [gM]; exact h2) (by rw [gM]; exact h3) (p1.swap h2 k1 k2 k3)
      exact ⟨d', j2, (fB hs).trans e, (p1.rel h2 (by omega)).trans r, p⟩

theorem OX {a b j : Nat} {d : List Int} (h : yB a b (j + 1) j d) (hb : b ≤ d.length) : Rel a b d (swp d j a) ∧ (∀ k, a ≤ k → k < j → gN (swp d j a) k ≤ gN (swp d j a) j) ∧ (∀ k, j < k → k < b → gN (swp d j a) j ≤ gN (swp d j a) k) := by
  have h1 := h.hi; have h3 := h.hj
  have g := sE (d := d) (i := j) (j := a) (by omega) (by omega)
  have gj : gN (swp d j a) j = gN d a := by
    rw [g]
    by_cases hh : j = a
    · rw [if_pos hh, hh]
    · rw [if_neg hh, if_pos rfl]
  refine ⟨Rel.swp (i := j) (j := a) (by omega) (by omega) (by omega) (by omega), fun k k1 k2 => ?_, fun k k1 k2 => ?_⟩
  · rw [gj, g]
    by_cases hk : k = a
    · rw [if_pos hk]
      have := h.lo j (by omega) (by omega); omega
    · rw [if_neg hk, if_neg (by omega)]
      have := h.lo k (by omega) (by omega); omega
  · rw [gj, g, if_neg (by omega), if_neg (by omega)]
    exact h.up k k1 k2

theorem PD {lo hi p : Nat} {d : List Int} (h0 : lo < hi) (hb : hi ≤ d.length) (hl : d.length < 2305843009213693951) (hp : lo ≤ p ∧ p < hi) :
    ∃ (m : Nat) (fl : Bool) (d' : List Int), gF d (lo : Int) (hi : Int) (p : Int) = some (((m : Int), fl), d') ∧ lo ≤ m ∧ m < hi ∧ Rel lo hi d d' ∧ (∀ k, lo ≤ k → k < m → gN d' k ≤ gN d' m) ∧ (∀ k, m < k → k < hi → gN d' m ≤ gN d' k) := by
  unfold gF
  rw [aJ (asN (by omega)), aJ (asN (by omega)), aJ (asN (by omega)), aJ (asN (by omega)), wrN (x := (lo : Int) + 1) (n := lo + 1) (by omega) (by omega), wrN (x := (hi : Int) - 1) (n := hi - 1) (by omega) (by omega)]
  simp only [Int.toNat_natCast]
  have r0 : Rel lo hi d (swp d lo p) := Rel.swp (i := lo) (j := p) (by omega) (by omega) (by omega) (by omega)
  have l0 : (swp d lo p).length = d.length := gM ..
  have inv : yB lo hi (lo + 1) (hi - 1) (swp d lo p) := ⟨by omega, by omega, by omega, fun k k1 k2 => by omega, fun k k1 k2 => by omega⟩
  obtain ⟨i', j', p1, p2, p3, p4, p5, _, p6⟩ := HE inv (by rw [l0]; exact hb) (by rw [l0]; exact hl)
  have e0 : fN (List.set (List.set d lo (List.getD d p default)) p (List.getD d lo default)) (lo : Int) ((lo + 1 : Nat) : Int) ((hi - 1 : Nat) : Int) = eT (swp d lo p) (lo : Nat) (i' : Nat) (j' : Nat) := p6
  rw [e0]
  have q1 := p1.hi; have q2 := p1.hj; have q3 := p1.hij
  generalize hg : swp d lo p = d1 at *
  unfold eT
  by_cases hlt : j' < i'
  · have : decide ((j' : Int) < (i' : Int)) = true := by simp; omega
    rw [this, cond_true]
    simp only [Int.toNat_natCast]
    rw [aJ (asN (by omega)), aJ (asN (by omega)), aJ (asN (by omega)), aJ (asN (by omega))]
    have hp1 : yB lo hi (j' + 1) j' d1 := by rw [p4 hlt]; exact p1
    obtain ⟨r, a1, a2⟩ := OX hp1 (by omega)
    exact ⟨j', true, swp d1 j' lo, rfl, by omega, by omega, r0.trans r, a1, a2⟩
  · obtain ⟨k1, k2, k3⟩ := p5 (by omega)
    have : decide ((j' : Int) < (i' : Int)) = false := by simp; omega
    rw [this, cond_false]
    simp only [Int.toNat_natCast]
    rw [aJ (asN (by omega)), aJ (asN (by omega)), aJ (asN (by omega)), aJ (asN (by omega)), wrN (x := (i' : Int) + 1) (n := i' + 1) (by omega) (by omega), wrN (x := (j' : Int) - 1) (n := j' - 1) (by omega) (by omega)]
    obtain ⟨d2, j2, e, r, pp⟩ := aAb (a := lo) (b := hi) (j' - 1 + 1 - (i' + 1)) (i' + 1) (j' - 1) (swp d1 i' j') rfl (by rw [gM]; omega) (by rw [gM]; omega) (p1.swap (by omega) k1 k2 k3)
    have w1 := pp.hi; have w2 := pp.hj
    have l2 : d2.length = d1.length := by rw [r.len, gM]
    unfold kE
    rw [show lp (fun s : List Int × Int × Int => dK (lo : Int) s.1 s.2.1 s.2.2) ((List.set (List.set d1 i' (List.getD d1 j' default)) j' (List.getD d1 i' default)), ((i' + 1 : Nat) : Int), ((j' - 1 : Nat) : Int)) = some (d2, (j2 : Int)) from e]
    simp only [Option.bind_some, iE, Int.toNat_natCast]
    rw [aJ (asN (by omega)), aJ (asN (by omega)), aJ (asN (by omega)), aJ (asN (by omega))]
    obtain ⟨rr, a1, a2⟩ := OX pp (by omega)
    exact ⟨j2, false, swp d2 j2 lo, rfl, by omega, by omega, ((r0.trans ((p1.rel (by omega) (by omega)).mono (by omega) (Nat.le_refl _))).trans (r.mono (by omega) (Nat.le_refl _))).trans rr, a1, a2⟩

end Go.Abs
namespace Go.Abs
open Go
structure DF (a b i j : Nat) (d : List Int) : Prop where
  hi : a < i
  hij : i ≤ j + 1
  hj : j < b
  lo : ∀ k, a < k → k < i → gN d k ≤ gN d a
  up : ∀ k, j < k → k < b → gN d a < gN d k

theorem DF.swap {a b i j : Nat} {d : List Int} (h : DF a b i j d) (hb : b ≤ d.length) (hij : i < j) (h1 : gN d a < gN d i) (h2 : gN d j ≤ gN d a) : DF a b (i + 1) (j - 1) (swp d i j) := by
  have := h.hi; have := h.hj
  have g := sE (d := d) (i := i) (j := j) (by omega) (by omega)
  have ga : gN (swp d i j) a = gN d a := by rw [g, if_neg (by omega), if_neg (by omega)]
  refine ⟨by omega, by omega, by omega, fun k k1 k2 => ?_, fun k k1 k2 => ?_⟩
  · rw [ga, g, if_neg (by omega)]
    by_cases hk : k = i
    · rw [if_pos hk]; exact h2
    · rw [if_neg hk]; exact h.lo k k1 (by omega)
  · rw [ga, g]
    by_cases hk : k = j
    · rw [if_pos hk]; exact h1
    · rw [if_neg hk, if_neg (by omega)]; exact h.up k (by omega) k2

theorem QI {a b i j : Nat} {d : List Int} (h : DF a b i j d) (hb : b ≤ d.length) (hl : d.length < 2305843009213693951) : ∃ i' j' : Nat, DF a b i' j' d ∧ i ≤ i' ∧ j' ≤ j ∧ (j' < i' → j' + 1 = i') ∧ (i' ≤ j' → i' < j' ∧ gN d a < gN d i' ∧ gN d j' ≤ gN d a) ∧
    cU (a : Nat) d (i : Nat) (j : Nat) = dS d (a : Nat) (i' : Nat) (j' : Nat) := by
  have h1 := h.hi; have h2 := h.hij; have h3 := h.hj
  obtain ⟨i', e1, a1, a2, a3, a4⟩ := JH (body := fun s => dP (a : Nat) (j : Nat) s.1 s.2) (d := d) (p := fun k => ¬ gN d a < gN d k) (j := j) (XR (a := a) (j := j) (d := d) (by omega) (by omega) hl) (j + 1 - i) i rfl h2
  obtain ⟨j', f1, c1, c2, c3, c4⟩ := CV (body := fun s => dQ (a : Nat) (i' : Nat) s.1 s.2) (d := d) (p := fun k => gN d a < gN d k) (i := i') (m := j) (by omega) (TS (a := a) (i := i') (m := j) (d := d) (by omega) (by omega) (by omega) hl) j (Nat.le_refl _) a2
  have hend : i' ≤ j' → i' < j' ∧ gN d a < gN d i' ∧ gN d j' ≤ gN d a := fun hh => by
    have k1 : gN d a < gN d i' := Classical.byContradiction fun hn => a4 (by omega) hn
    have k2 : ¬ gN d a < gN d j' := c4 hh
    refine ⟨?_, k1, by omega⟩
    rcases Nat.lt_or_ge i' j' with h | h
    · exact h
    · have : i' = j' := by omega
      rw [this] at k1; exact absurd k1 k2
  refine ⟨i', j', ⟨by omega, by omega, by omega, fun k k1 k2 => ?_, fun k k1 k2 => ?_⟩, a1, c2, fun hh => by omega, hend, ?_⟩
  · by_cases hk : k < i
    · exact h.lo k k1 hk
    · have := a3 k (by omega) k2; omega
  · by_cases hk : j < k
    · exact h.up k hk k2
    · exact c3 k k1 (by omega)
  · unfold cU iU
    rw [show lp (fun s : List Int × Int => dP (a : Nat) (j : Nat) s.1 s.2) (d, (i : Int)) = some (d, (i' : Int)) from e1]
    simp only [Option.bind_some]
    unfold fS iQ
    rw [show lp (fun s : List Int × Int => dQ (a : Nat) (i' : Nat) s.1 s.2) (d, (j : Int)) = some (d, (j' : Int)) from f1]
    rfl

theorem XM {a b : Nat} : ∀ (n i j : Nat) (d : List Int), j + 1 - i = n → b ≤ d.length → d.length < 2305843009213693951 → DF a b i j d →
    ∃ (d' : List Int) (j' : Nat), lp (fun s : List Int × Int × Int => cU (a : Nat) s.1 s.2.1 s.2.2) (d, (i : Int), (j : Int)) = some (d', ((j' + 1 : Nat) : Int)) ∧ Rel (a + 1) b d d' ∧ DF a b (j' + 1) j' d' := by
  intro n
  induction n using Nat.strongRecOn with
  | ind n ih =>
    intro i j d h1 h2 h3 h
    obtain ⟨i', j', p1, p2, p3, p4, p5, p6⟩ := QI h h2 h3
    have q1 := p1.hi; have q2 := p1.hj; have q3 := p1.hij
    by_cases hlt : j' < i'
    · have hs : cU (a : Nat) d (i : Nat) (j : Nat) = some (.inr (d, (i' : Int))) := by
        rw [p6]
        unfold dS
        have : decide ((j' : Int) < (i' : Int)) = true := by simp; omega
        rw [this, cond_true]
      have := p4 hlt
      exact ⟨d, j', by rw [this]; exact cQ hs, Rel.refl .., by rw [this]; exact p1⟩
    · obtain ⟨k1, k2, k3⟩ := p5 (by omega)
      have hs : cU (a : Nat) d (i : Nat) (j : Nat) = some (.inl (swp d i' j', ((i' + 1 : Nat) : Int), ((j' - 1 : Nat) : Int))) := by
        rw [p6]
        unfold dS
        have : decide ((j' : Int) < (i' : Int)) = false := by simp; omega
        rw [this, cond_false]
        simp only [Int.toNat_natCast]
        rw [aJ (asN (by omega)), aJ (asN (by omega)), aJ (asN (by omega)), aJ (asN (by omega)), wrN (x := (i' : Int) + 1) (n := i' + 1) (by omega) (by omega), wrN (x := (j' : Int) - 1) (n := j' - 1) (by omega) (by omega)]
        rfl
      obtain ⟨d', j2, e, r, p⟩ := ih (j' - 1 + 1 - (i' + 1)) (by omega) (i' + 1) (j' - 1) (swp d i' j') rfl (by rw [gM]; exact h2) (by rw [gM]; exact h3) (p1.swap h2 k1 k2 k3)
      exact ⟨d', j2, (fB hs).trans e, (Rel.swp (i := i') (j := j') (by omega) (by omega) (by omega) (by omega)).trans r, p⟩

theorem LY {lo hi p : Nat} {d : List Int} (h0 : lo < hi) (hb : hi ≤ d.length) (hl : d.length < 2305843009213693951) (hp : lo ≤ p ∧ p < hi) :
    ∃ (m : Nat) (d' : List Int), eU d (lo : Int) (hi : Int) (p : Int) = some ((m : Int), d') ∧ lo < m ∧ m ≤ hi ∧ Rel lo hi d d' ∧ (∀ k, lo ≤ k → k < m → gN d' k ≤ gN d p) ∧ (∀ k, m ≤ k → k < hi → gN d p < gN d' k) := by
  unfold eU
  rw [aJ (asN (by omega)), aJ (asN (by omega)), aJ (asN (by omega)), aJ (asN (by omega)), wrN (x := (lo : Int) + 1) (n := lo + 1) (by omega) (by omega), wrN (x := (hi : Int) - 1) (n := hi - 1) (by omega) (by omega)]
  simp only [Int.toNat_natCast]
  have r0 : Rel lo hi d (swp d lo p) := Rel.swp (i := lo) (j := p) (by omega) (by omega) (by omega) (by omega)
  have l0 : (swp d lo p).length = d.length := gM ..
  have g := sE (d := d) (i := lo) (j := p) (by omega) (by omega)
  have g0 : gN (swp d lo p) lo = gN d p := by
    rw [g]
    by_cases hh : lo = p
    · rw [if_pos hh, hh]
    · rw [if_neg hh, if_pos rfl]
  have inv : DF lo hi (lo + 1) (hi - 1) (swp d lo p) := ⟨by omega, by omega, by omega, fun k k1 k2 => by omega, fun k k1 k2 => by omega⟩
  obtain ⟨d', j', e, r, pp⟩ := XM (a := lo) (b := hi) (hi - 1 + 1 - (lo + 1)) (lo + 1) (hi - 1) (swp d lo p) rfl (by rw [l0]; exact hb) (by rw [l0]; exact hl) inv
  have w1 := pp.hi; have w2 := pp.hj
  have ga : gN d' lo = gN d p := by rw [r.out lo (by omega), g0]
  unfold iR
  rw [show lp (fun s : List Int × Int × Int => cU (lo : Int) s.1 s.2.1 s.2.2) ((List.set (List.set d lo (List.getD d p default)) p (List.getD d lo default)), ((lo + 1 : Nat) : Int), ((hi - 1 : Nat) : Int)) = some (d', ((j' + 1 : Nat) : Int)) from e]
  refine ⟨j' + 1, d', rfl, by omega, by omega, r0.trans (r.mono (by omega) (Nat.le_refl _)), fun k k1 k2 => ?_, fun k k1 k2 => ?_⟩
  · rw [← ga]
    by_cases hk : k = lo
    · rw [hk]; exact Int.le_refl _
    · exact pp.lo k (by omega) k2
  · rw [← ga]; exact pp.up k (by omega) k2

theorem QW {lo i : Nat} {d : List Int} : ∀ (n i' : Nat), i' - i = n → oW lo i d → lo < i → (∀ k, i ≤ k → k < i' → gN d (k - 1) ≤ gN d k) → oW lo i' d
  | 0, i', h, hs, _, _ => fun p q p1 p2 p3 => hs p q p1 p2 (by omega)
  | n + 1, i', h, hs, hl, hk => by
    have ih := QW (d := d) n (i' - 1) (by omega) hs hl fun k k1 k2 => hk k k1 (by omega)
    intro p q p1 p2 p3
    by_cases hq : q = i' - 1
    · by_cases hp : p = q
      · rw [hp]; exact Int.le_refl _
      · have h1 := hk q (by omega) (by omega)
        have h2 := ih p (q - 1) p1 (by omega) (by omega)
        omega
    · exact ih p q p1 p2 (by omega)

theorem YG {lo hi : Nat} {d : List Int} (x : Int) (hb : hi ≤ d.length) (hl : d.length < 2305843009213693951) : ∀ (n i : Nat), hi - i = n → 1 ≤ i → i ≤ hi →
    ∃ i' : Nat, lp (fun s : List Int × Int => cR (lo : Nat) (hi : Nat) x s.1 s.2) (d, (i : Int)) = some (d, (i' : Int)) ∧ i ≤ i' ∧ i' ≤ hi ∧ (∀ k, i ≤ k → k < i' → gN d (k - 1) ≤ gN d k) := by
  intro n
  induction n with
  | zero =>
    intro i h1 h2 h3
    refine ⟨i, cQ ?_, Nat.le_refl _, h3, fun k k1 k2 => by omega⟩
    show cR _ _ _ _ _ = _
    have : decide ((i : Int) < (hi : Int)) = false := by simp; omega
    simp only [cR, this]
    rw [aJ (fun h => by cases h), aJ (fun h => by cases h)]
    rfl
  | succ n ih =>
    intro i h1 h2 h3
    have hd : decide ((i : Int) < (hi : Int)) = true := by simp; omega
    have hs : cR (lo : Nat) (hi : Nat) x d (i : Nat) = if gN d i < gN d (i - 1) then some (.inr (d, (i : Int))) else some (.inl (d, ((i + 1 : Nat) : Int))) := by
      unfold cR
      rw [hd, wrN (x := (i : Int) - 1) (n := i - 1) (by omega) (by omega), wrN (x := (i : Int) + 1) (n := i + 1) (by omega) (by omega), aJ fun _ => asN (by omega), aJ fun _ => asN (by omega)]
      simp only [cV, cond_true, rD, Option.bind_some, Bool.true_and, Int.toNat_natCast, gN]
      by_cases h : d.getD i default < d.getD (i - 1) default <;> simp [h]
    by_cases h : gN d i < gN d (i - 1)
    · rw [if_pos h] at hs
      exact ⟨i, cQ hs, Nat.le_refl _, h3, fun k k1 k2 => by omega⟩
    · rw [if_neg h] at hs
      obtain ⟨i', e, a1, a2, a3⟩ := ih (i + 1) (by omega) (by omega) (by omega)
      refine ⟨i', (fB hs).trans e, by omega, a2, fun k k1 k2 => ?_⟩
      by_cases hk : k = i
      · rw [hk]; omega
      · exact a3 k (by omega) k2

theorem EU {lo hi : Nat} {d d' : List Int} (r : Rel lo hi d d') (h : lo = 0 ∨ ∀ k, lo ≤ k → k < hi → gN d (lo - 1) ≤ gN d k) : lo = 0 ∨ ∀ k, lo ≤ k → k < hi → gN d' (lo - 1) ≤ gN d' k := by
  by_cases h0 : lo = 0
  · exact .inl h0
  · rcases h with h | h
    · exact .inl h
    · exact .inr fun k k1 k2 => by
        rw [r.out (lo - 1) (by omega)]
        exact r.all (p := fun v => gN d (lo - 1) ≤ v) h k k1 k2

theorem YA {lo hi i : Nat} (x y : Int) : ∀ (j : Nat) (d : List Int), lo ≤ j → j ≤ i → i < d.length → d.length < 2305843009213693951 → CU lo j i d → (lo = 0 ∨ ∀ k, lo ≤ k → k ≤ i → gN d (lo - 1) ≤ gN d k) →
    ∃ d', lp (fun s : List Int × Int => cL (lo : Nat) (hi : Nat) x y s.1 s.2) (d, (j : Int)) = some d' ∧ Rel lo (i + 1) d d' ∧ oW lo (i + 1) d' := by
  intro j
  induction j with
  | zero =>
    intro d h1 h2 h3 h4 h5 h6
    refine ⟨d, cQ ?_, Rel.refl .., h5.done h1 (by omega)⟩
    show cL _ _ _ _ _ _ = _
    have : decide ((1 : Int) ≤ ((0 : Nat) : Int)) = false := by simp
    simp only [cL, this, cond_false]
  | succ j ih =>
    intro d h1 h2 h3 h4 h5 h6
    have hd : decide ((1 : Int) ≤ ((j + 1 : Nat) : Int)) = true := by simp; omega
    have hs : cL (lo : Nat) (hi : Nat) x y d ((j + 1 : Nat) : Int) = if gN d (j + 1) < gN d j then some (.inl (swp d (j + 1) j, (j : Int))) else some (.inr d) := by
      unfold cL
      rw [hd, cond_true, wrN (x := ((j + 1 : Nat) : Int) - 1) (n := j) (by omega) (by omega), aJ (asN (by omega)), aJ (asN (by omega))]
      simp only [rD, Option.bind_some, Int.toNat_natCast, gN]
      by_cases h : d.getD (j + 1) default < d.getD j default
      · simp only [h, decide_true, Bool.not_true, cond_false, if_true]
        rw [aJ (asN (by omega)), aJ (asN (by omega)), aJ (asN (by omega)), aJ (asN (by omega))]
        rfl
      · simp only [h, decide_false, Bool.not_false, cond_true, if_false]
    by_cases h : gN d (j + 1) < gN d j
    · rw [if_pos h] at hs
      have hlo : lo < j + 1 := by
        rcases h6 with h6 | h6
        · omega
        · rcases Nat.lt_or_ge lo (j + 1) with hh | hh
          · exact hh
          · have : lo = j + 1 := by omega
            have h7 := h6 (j + 1) (by omega) h2
            rw [this] at h7
            simp only [Nat.add_sub_cancel] at h7
            omega
      have r1 : Rel lo (i + 1) d (swp d (j + 1) j) := Rel.swp (i := j + 1) (j := j) (by omega) (by omega) (by omega) (by omega)
      obtain ⟨d', e, r, s⟩ := ih (swp d (j + 1) j) (by omega) (by omega) (by rw [gM]; exact h3) (by rw [gM]; exact h4) (h5.next hlo h2 h3 h) ((EU r1 (h6.imp id fun h k a b => h k a (by omega))).imp id fun h k a b => h k a (by omega))
      exact ⟨d', (fB hs).trans e, r1.trans r, s⟩
    · rw [if_neg h] at hs
      exact ⟨d, cQ hs, Rel.refl .., h5.done h1 fun hh => h hh.2⟩

theorem aA0 {lo hi i : Nat} (x y : Int) : ∀ (n j : Nat) (d : List Int), hi - j = n → i < j → hi ≤ d.length → d.length < 2305843009213693951 →
    ∃ d', lp (fun s : List Int × Int => cS (lo : Nat) (hi : Nat) x y s.1 s.2) (d, (j : Int)) = some d' ∧ Rel i hi d d' := by
  intro n
  induction n with
  | zero =>
    intro j d h1 h2 h3 h4
    refine ⟨d, cQ ?_, Rel.refl ..⟩
    show cS _ _ _ _ _ _ = _
    have : decide ((j : Int) < (hi : Int)) = false := by simp; omega
    simp only [cS, this, cond_false]
  | succ n ih =>
    intro j d h1 h2 h3 h4
    have hd : decide ((j : Int) < (hi : Int)) = true := by simp; omega
    have hs : cS (lo : Nat) (hi : Nat) x y d (j : Nat) = if gN d j < gN d (j - 1) then some (.inl (swp d j (j - 1), ((j + 1 : Nat) : Int))) else some (.inr d) := by
      unfold cS
      rw [hd, cond_true, wrN (x := (j : Int) - 1) (n := j - 1) (by omega) (by omega), wrN (x := (j : Int) + 1) (n := j + 1) (by omega) (by omega), aJ (asN (by omega)), aJ (asN (by omega))]
      simp only [rD, Option.bind_some, Int.toNat_natCast, gN]
      by_cases h : d.getD j default < d.getD (j - 1) default
      · simp only [h, decide_true, Bool.not_true, cond_false, if_true]
        rw [aJ (asN (by omega)), aJ (asN (by omega)), aJ (asN (by omega)), aJ (asN (by omega))]
        rfl
      · simp only [h, decide_false, Bool.not_false, cond_true, if_false]
    by_cases h : gN d j < gN d (j - 1)
    · rw [if_pos h] at hs
      obtain ⟨d', e, r⟩ := ih (j + 1) (swp d j (j - 1)) (by omega) (by omega) (by rw [gM]; exact h3) (by rw [gM]; exact h4)
      exact ⟨d', (fB hs).trans e, (Rel.swp (i := j) (j := j - 1) (by omega) (by omega) (by omega) (by omega)).trans r⟩
    · rw [if_neg h] at hs
      exact ⟨d, cQ hs, Rel.refl ..⟩

theorem VU {lo hi i : Nat} (x : Int) {d : List Int} (h1 : lo < i) (h2 : i < hi) (h3 : hi ≤ d.length) (h4 : d.length < 2305843009213693951) :
    ∃ d', cK d (lo : Nat) (hi : Nat) (i : Nat) x = some (.inl (d', (i : Int), IntKind.i64.wrap (x + 1))) ∧ Rel i hi d d' := by
  unfold cK
  rw [wrN (x := (hi : Int) - (i : Int)) (n := hi - i) (by omega) (by omega)]
  by_cases h : (2 : Int) ≤ ((hi - i : Nat) : Int)
  · simp only [h, decide_true, cond_true]
    unfold fY
    rw [wrN (x := (i : Int) + 1) (n := i + 1) (by omega) (by omega)]
    obtain ⟨d', e, r⟩ := aA0 (lo := lo) (hi := hi) (i := i) (i : Int) x (hi - (i + 1)) (i + 1) d rfl (by omega) h3 h4
    rw [e]
    exact ⟨d', rfl, r⟩
  · simp only [h, decide_false, cond_false]
    exact ⟨d, rfl, Rel.refl ..⟩

theorem YN {lo hi i : Nat} (x : Int) {d : List Int} (h1 : lo < i) (h2 : i ≤ hi) (h3 : hi ≤ d.length) (h4 : d.length < 2305843009213693951) (hs : oW lo i d) (hb : lo = 0 ∨ ∀ k, lo ≤ k → k < hi → gN d (lo - 1) ≤ gN d k) :
    (∃ (fl : Bool) (d' : List Int), dD d (lo : Nat) (hi : Nat) (i : Nat) x = some (.inr (.inr (fl, d'))) ∧ Rel lo hi d d' ∧ (fl = true → oW lo hi d')) ∨
    (∃ (d' : List Int) (i' : Nat), dD d (lo : Nat) (hi : Nat) (i : Nat) x = some (.inl (d', (i' : Int), IntKind.i64.wrap (x + 1))) ∧ Rel lo hi d d' ∧ lo < i' ∧ i' ≤ hi ∧ oW lo i' d') := by
  unfold dD
  obtain ⟨i', e, a1, a2, a3⟩ := YG (lo := lo) (hi := hi) x h3 h4 (hi - i) i rfl (by omega) h2
  rw [e]
  simp only [Option.bind_some]
  have hs' := QW (i' - i) i' rfl hs h1 a3
  unfold eH
  by_cases hi' : i' = hi
  · have : decide ((i' : Int) = (hi : Int)) = true := by simp; omega
    rw [this, cond_true]
    left
    exact ⟨true, d, rfl, Rel.refl .., fun _ => hi' ▸ hs'⟩
  · have hne : decide ((i' : Int) = (hi : Int)) = false := by simp; omega
    rw [hne, cond_false, wrN (x := (hi : Int) - (lo : Int)) (n := hi - lo) (by omega) (by omega)]
    by_cases h50 : ((hi - lo : Nat) : Int) < 50
    · simp only [h50, decide_true, cond_true]
      left
      exact ⟨false, d, rfl, Rel.refl .., fun h => by cases h⟩
    · simp only [h50, decide_false, cond_false]
      rw [wrN (x := (i' : Int) - 1) (n := i' - 1) (by omega) (by omega), wrN (x := (i' : Int) - (lo : Int)) (n := i' - lo) (by omega) (by omega)]
      simp only [Int.toNat_natCast]
      rw [aJ (asN (by omega)), aJ (asN (by omega)), aJ (asN (by omega)), aJ (asN (by omega))]
      have r1 : Rel lo hi d (swp d i' (i' - 1)) := Rel.swp (i := i') (j := i' - 1) (by omega) (by omega) (by omega) (by omega)
      have l1 : (swp d i' (i' - 1)).length = d.length := gM ..
      have g := sE (d := d) (i := i') (j := i' - 1) (by omega) (by omega)
      right
      by_cases hge : (2 : Int) ≤ ((i' - lo : Nat) : Int)
      · simp only [hge, decide_true, cond_true]
        unfold fW
        have ins : CU lo (i' - 1) (i' - 1) (swp d i' (i' - 1)) := ⟨fun p q p1 p2 p3 p4 p5 => by
          rw [g, g, if_neg p4, if_neg p5, if_neg (by omega), if_neg (by omega)]
          exact hs' p q p1 p2 (by omega), fun q q1 q2 => by omega⟩
        obtain ⟨d2, e2, r2, s2⟩ := YA (lo := lo) (hi := hi) (i := i' - 1) (i' : Int) x (i' - 1) (swp d i' (i' - 1)) (by omega) (Nat.le_refl _) (by rw [l1]; omega) (by rw [l1]; exact h4) ins ((EU r1 hb).imp id fun h k a b => h k a (by omega))
        have e2' : lp (fun s : List Int × Int => cL (lo : Int) (hi : Int) (i' : Int) x s.1 s.2) ((List.set (List.set d i' (List.getD d (i' - 1) default)) (i' - 1) (List.getD d i' default)), ((i' - 1 : Nat) : Int)) = some d2 := e2
        rw [e2']
        simp only [Option.bind_some]
        rw [show i' - 1 + 1 = i' by omega] at r2 s2
        have l2 : d2.length = d.length := by rw [r2.len, l1]
        obtain ⟨d3, e3, r3⟩ := VU (lo := lo) (hi := hi) (i := i') x (d := d2) (by omega) (by omega) (by omega) (by omega)
        rw [e3]
        refine ⟨d3, i', rfl, (r1.trans (r2.mono (Nat.le_refl _) (by omega))).trans (r3.mono (by omega) (Nat.le_refl _)), by omega, a2, fun p q p1 p2 p3 => ?_⟩
        rw [r3.out p (by omega), r3.out q (by omega)]
        exact s2 p q p1 p2 p3
      · simp only [hge, decide_false, cond_false]
        obtain ⟨d3, e3, r3⟩ := VU (lo := lo) (hi := hi) (i := i') x (d := swp d i' (i' - 1)) (by omega) (by omega) (by omega) (by omega)
        have e3' : cK (List.set (List.set d i' (List.getD d (i' - 1) default)) (i' - 1) (List.getD d i' default)) (lo : Int) (hi : Int) (i' : Int) x = _ := e3
        rw [e3']
        refine ⟨d3, i', rfl, r1.trans (r3.mono (by omega) (Nat.le_refl _)), by omega, a2, ?_⟩
        have : i' = lo + 1 := by omega
        rw [this]; exact HA lo d3

theorem aAJ {lo hi : Nat} : ∀ (n x i : Nat) (d : List Int), 5 - x = n → lo < i → i ≤ hi → hi ≤ d.length → d.length < 2305843009213693951 → oW lo i d → (lo = 0 ∨ ∀ k, lo ≤ k → k < hi → gN d (lo - 1) ≤ gN d k) → x ≤ 5 →
    ∃ (fl : Bool) (d' : List Int), (lp (fun s : List Int × Int × Int => cA (lo : Nat) (hi : Nat) s.1 s.2.1 s.2.2) (d, (i : Int), (x : Int))).bind (Sum.elim (fun rr => eJ rr) (fun rr => some (rr.1, rr.2))) = some (fl, d') ∧ Rel lo hi d d' ∧ (fl = true → oW lo hi d') := by
  intro n
  induction n with
  | zero =>
    intro x i d h1 h2 h3 h4 h5 h6 h7 h8
    have hs : cA (lo : Nat) (hi : Nat) d (i : Nat) (x : Nat) = some (.inr (.inl d)) := by
      have : decide ((x : Int) < 5) = false := by simp; omega
      simp only [cA, this, cond_false]
    rw [cQ (show (fun s : List Int × Int × Int => cA (lo : Nat) (hi : Nat) s.1 s.2.1 s.2.2) (d, (i : Int), (x : Int)) = _ from hs)]
    exact ⟨false, d, rfl, Rel.refl .., fun h => by cases h⟩
  | succ n ih =>
    intro x i d h1 h2 h3 h4 h5 h6 h7 h8
    have hl2 : cA (lo : Nat) (hi : Nat) d (i : Nat) (x : Nat) = dD d (lo : Nat) (hi : Nat) (i : Nat) (x : Nat) := by
      have : decide ((x : Int) < 5) = true := by simp; omega
      simp only [cA, this, cond_true]
    rcases YN (lo := lo) (hi := hi) (x : Int) h2 h3 h4 h5 h6 h7 with ⟨fl, d', e, r, s⟩ | ⟨d', i', e, r, k1, k2, s⟩
    · rw [cQ (show (fun s : List Int × Int × Int => cA (lo : Nat) (hi : Nat) s.1 s.2.1 s.2.2) (d, (i : Int), (x : Int)) = _ from hl2.trans e)]
      exact ⟨fl, d', rfl, r, s⟩
    · rw [wrN (x := (x : Int) + 1) (n := x + 1) (by omega) (by omega)] at e
      obtain ⟨fl, d2, e2, r2, s2⟩ := ih (x + 1) i' d' (by omega) k1 k2 (by rw [r.len]; exact h4) (by rw [r.len]; exact h5) s (EU r h7) (by omega)
      rw [fB (show (fun s : List Int × Int × Int => cA (lo : Nat) (hi : Nat) s.1 s.2.1 s.2.2) (d, (i : Int), (x : Int)) = _ from hl2.trans e)]
      exact ⟨fl, d2, e2, r.trans r2, s2⟩

theorem XZ {lo hi : Nat} {d : List Int} (h0 : lo < hi) (h1 : hi ≤ d.length) (h2 : d.length < 2305843009213693951) (hb : lo = 0 ∨ ∀ k, lo ≤ k → k < hi → gN d (lo - 1) ≤ gN d k) :
    ∃ (fl : Bool) (d' : List Int), eO d (lo : Int) (hi : Int) = some (fl, d') ∧ Rel lo hi d d' ∧ (fl = true → oW lo hi d') := by
  unfold eO fX
  rw [wrN (x := (lo : Int) + 1) (n := lo + 1) (by omega) (by omega)]
  exact aAJ (lo := lo) (hi := hi) (5 - 0) 0 (lo + 1) d rfl (by omega) (by omega) h1 h2 (HA lo d) hb (by omega)

end Go.Abs
namespace Go.Abs
open Go
abbrev PS := List Int × Int × Int × Int × Bool × Bool

abbrev PR := List Int → Int → Int → Int → Option (List Int)

def xE (a b : Nat) (d d' : List Int) : Prop := Rel a b d d' ∧ oW a b d'

structure wY (a b lim : Nat) (d : List Int) : Prop where
  ab : a ≤ b
  bl : b ≤ d.length
  len : d.length < 2305843009213693951
  bnd : a = 0 ∨ ∀ k, a ≤ k → k < b → gN d (a - 1) ≤ gN d k
  lim : lim ≤ 100

def ER (rec : PR) (N : Nat) : Prop := ∀ (d : List Int) (a b lim : Nat), wY a b lim d → (rec d (a : Int) (b : Int) (lim : Int) = none ∧ N ≤ b - a) ∨ ∃ d', rec d (a : Int) (b : Int) (lim : Int) = some d' ∧ xE a b d d'

def CO (N a b : Nat) (d : List Int) (F : Option (PS ⊕ List Int)) : Prop :=
  (F = none ∧ N + 1 ≤ b - a) ∨ (∃ d', F = some (.inr d') ∧ xE a b d d') ∨
  ∃ (d' : List Int) (a' b' lim' : Nat) (wb wp : Bool), F = some (.inl (d', (a' : Int), (b' : Int), (lim' : Int), wb, wp)) ∧ b' - a' < b - a ∧ wY a' b' lim' d' ∧ ∀ d'', xE a' b' d' d'' → xE a b d d''

theorem xE.pre {a b : Nat} {d d1 d' : List Int} (r : Rel a b d d1) (h : xE a b d1 d') : xE a b d d' := ⟨r.trans h.1, h.2⟩

theorem CO.pre {N a b : Nat} {d d1 : List Int} {F : Option (PS ⊕ List Int)} (r : Rel a b d d1) (h : CO N a b d1 F) : CO N a b d F := by
  rcases h with h | ⟨d', h1, h2⟩ | ⟨d', a', b', lim', wb, wp, h1, h2, h3, h4⟩
  · exact .inl h
  · exact .inr (.inl ⟨d', h1, h2.pre r⟩)
  · exact .inr (.inr ⟨d', a', b', lim', wb, wp, h1, h2, h3, fun d'' hg => (h4 d'' hg).pre r⟩)

theorem wY.rel {a b lim : Nat} {d d1 : List Int} (h : wY a b lim d) (r : Rel a b d d1) : wY a b lim d1 :=
  ⟨h.ab, by rw [r.len]; exact h.bl, by rw [r.len]; exact h.len, EU r h.bnd, h.lim⟩

theorem OE {a m b : Nat} {d : List Int} (hm : m < b) (h1 : ∀ k, a ≤ k → k < m → gN d k ≤ gN d m) (h2 : ∀ k, m < k → k < b → gN d m ≤ gN d k) (s1 : oW a m d) (s2 : oW (m + 1) b d) : oW a b d := by
  intro p q p1 p2 p3
  by_cases hq : q < m
  · exact s1 p q p1 p2 hq
  · by_cases hp : m < p
    · exact s2 p q hp p2 p3
    · have g1 : gN d p ≤ gN d m := by
        by_cases e : p = m
        · rw [e]; exact Int.le_refl _
        · exact h1 p p1 (by omega)
      have g2 : gN d m ≤ gN d q := by
        by_cases e : q = m
        · rw [e]; exact Int.le_refl _
        · exact h2 q (by omega) p3
      omega

theorem UU {rec : PR} {N a b lim p : Nat} {d : List Int} (hrec : ER rec N) (hv : wY a b lim d) (h12 : 12 < b - a) (hp : a ≤ p ∧ p < b) (wb wp : Bool) (len : Int) :
    CO N a b d (gQ rec d (a : Int) (b : Int) (lim : Int) wb wp len (p : Int)) := by
  have hb := hv.bl; have hl := hv.len
  -- with all equal ones on the left
  have eqc : 0 < a → ¬ gN d (a - 1) < gN d p → CO N a b d ((eU d (a : Int) (b : Int) (p : Int)).bind fun x20 => some (.inl (x20.2, x20.1, (b : Int), (lim : Int), wb, wp))) := by
    intro ha hn
    obtain ⟨m, d', e, m1, m2, r, q1, q2⟩ := LY (lo := a) (hi := b) (p := p) (d := d) (by omega) hb hl hp
    have hall : ∀ k, a ≤ k → k < b → gN d p ≤ gN d' k := by
      refine r.all (p := fun v => gN d p ≤ v) fun k k1 k2 => ?_
      rcases hv.bnd with h | h
      · omega
      · have := h k k1 k2; omega
    rw [e]
    refine .inr (.inr ⟨d', m, b, lim, wb, wp, rfl, by omega, ⟨m2, by rw [r.len]; exact hb, by rw [r.len]; exact hl, .inr fun k k1 k2 => ?_, hv.lim⟩, fun d'' hg => ⟨r.trans (hg.1.mono (by omega) (Nat.le_refl _)), fun x y x1 x2 x3 => ?_⟩⟩)
    · have := q1 (m - 1) (by omega) (by omega); have := q2 k k1 k2; omega
    · by_cases hx : m ≤ x
      · exact hg.2 x y hx x2 x3
      · rw [hg.1.out x (by omega)]
        have g1 := q1 x x1 (by omega)
        by_cases hy : y < m
        · rw [hg.1.out y (by omega)]
          have g2 := hall y (by omega) (by omega); omega
        · have g2 := hg.1.all (p := fun v => gN d p < v) q2 y (by omega) x3
          omega
  -- a partition, and the lesser part first
  have ptc : CO N a b d ((gF d (a : Int) (b : Int) (p : Int)).bind fun x23 =>
      bA ((8 : Int) ≠ 0) <|
      cond (decide ((IntKind.i64.wrap (x23.1.1 - (a : Int))) < (IntKind.i64.wrap ((b : Int) - x23.1.1))))
      ((rec x23.2 (a : Int) x23.1.1 (lim : Int)).bind fun x28 =>
      some (.inl (x28, IntKind.i64.wrap (x23.1.1 + (1 : Int)), (b : Int), (lim : Int), decide ((IntKind.i64.wrap (Int.tdiv len (8 : Int))) ≤ (IntKind.i64.wrap (x23.1.1 - (a : Int)))), x23.1.2)))
      ((rec x23.2 (IntKind.i64.wrap (x23.1.1 + (1 : Int))) (b : Int) (lim : Int)).bind fun x31 =>
      some (.inl (x31, (a : Int), x23.1.1, (lim : Int), decide ((IntKind.i64.wrap (Int.tdiv len (8 : Int))) ≤ (IntKind.i64.wrap ((b : Int) - x23.1.1))), x23.1.2)))) := by
    obtain ⟨m, fl, d1, e, m1, m2, r, q1, q2⟩ := PD (lo := a) (hi := b) (p := p) (d := d) (by omega) hb hl hp
    have hv1 := hv.rel r
    rw [e]
    simp only [Option.bind_some]
    rw [aJ (by decide), wrN (x := (m : Int) + 1) (n := m + 1) (by omega) (by omega)]
    have vL : wY a m lim d1 := ⟨m1, by have := hv1.bl; omega, hv1.len, hv1.bnd.imp id fun h k k1 k2 => h k k1 (by omega), hv.lim⟩
    have vR : wY (m + 1) b lim d1 := ⟨by omega, hv1.bl, hv1.len, .inr fun k k1 k2 => by simpa using q2 k (by omega) k2, hv.lim⟩
    cases decide ((IntKind.i64.wrap ((m : Int) - (a : Int))) < (IntKind.i64.wrap ((b : Int) - (m : Int)))) with
    | true =>
      rw [cond_true]
      rcases hrec d1 a m lim vL with ⟨hn, hN⟩ | ⟨d2, e2, g2⟩
      · rw [hn]; exact .inl ⟨rfl, by omega⟩
      · rw [e2]
        simp only [Option.bind_some]
        have top : gN d2 m = gN d1 m := g2.1.out m (by omega)
        refine .inr (.inr ⟨d2, m + 1, b, lim, _, _, rfl, by omega, ⟨by omega, by rw [g2.1.len]; exact hv1.bl, by rw [g2.1.len]; exact hv1.len, .inr fun k k1 k2 => ?_, hv.lim⟩, fun d3 hg => ⟨(r.trans (g2.1.mono (Nat.le_refl _) (by omega))).trans (hg.1.mono (by omega) (Nat.le_refl _)), ?_⟩⟩)
        · rw [show m + 1 - 1 = m by omega, top, g2.1.out k (by omega)]; exact q2 k (by omega) k2
        · have o3 : ∀ k, k ≤ m → gN d3 k = gN d2 k := fun k hk => hg.1.out k (by omega)
          refine OE m2 (fun k k1 k2 => ?_) (fun k k1 k2 => ?_) (fun x y x1 x2 x3 => by rw [o3 x (by omega), o3 y (by omega)]; exact g2.2 x y x1 x2 x3) hg.2
          · rw [o3 k (by omega), o3 m (by omega), top]
            exact g2.1.all (p := fun v => v ≤ gN d1 m) q1 k k1 k2
          · rw [o3 m (by omega), top]
            exact hg.1.all (p := fun v => gN d1 m ≤ v) (fun k k1 k2 => by rw [g2.1.out k (by omega)]; exact q2 k (by omega) k2) k (by omega) k2
    | false =>
      rw [cond_false]
      rcases hrec d1 (m + 1) b lim vR with ⟨hn, hN⟩ | ⟨d2, e2, g2⟩
      · rw [hn]; exact .inl ⟨rfl, by omega⟩
      · rw [e2]
        simp only [Option.bind_some]
        have low : ∀ k, k ≤ m → gN d2 k = gN d1 k := fun k hk => g2.1.out k (by omega)
        refine .inr (.inr ⟨d2, a, m, lim, _, _, rfl, by omega, ⟨m1, by rw [g2.1.len]; have := hv1.bl; omega, by rw [g2.1.len]; exact hv1.len, ?_, hv.lim⟩, fun d3 hg => ⟨(r.trans (g2.1.mono (by omega) (Nat.le_refl _))).trans (hg.1.mono (Nat.le_refl _) (by omega)), ?_⟩⟩)
        · rcases hv1.bnd with h | h
          · exact .inl h
          · exact .inr fun k k1 k2 => by rw [low (a - 1) (by omega), low k (by omega)]; exact h k k1 (by omega)
        · have o3 : ∀ k, m ≤ k → gN d3 k = gN d2 k := fun k hk => hg.1.out k (by omega)
          refine OE m2 (fun k k1 k2 => ?_) (fun k k1 k2 => ?_) hg.2 (fun x y x1 x2 x3 => by rw [o3 x (by omega), o3 y (by omega)]; exact g2.2 x y x1 x2 x3)
          · rw [o3 m (Nat.le_refl _), low m (Nat.le_refl _)]
            exact hg.1.all (p := fun v => v ≤ gN d1 m) (fun k k1 k2 => by rw [low k (by omega)]; exact q1 k k1 k2) k k1 k2
          · rw [o3 m (Nat.le_refl _), low m (Nat.le_refl _), o3 k (by omega)]
            exact g2.1.all (p := fun v => gN d1 m ≤ v) (fun k k1 k2 => q2 k (by omega) k2) k (by omega) k2
  unfold gQ
  by_cases ha : 0 < a
  · have hd : decide ((0 : Int) < (a : Int)) = true := by simp; omega
    rw [hd, wrN (x := (a : Int) - 1) (n := a - 1) (by omega) (by omega), aJ fun _ => asN (by omega), aJ fun _ => asN (by omega)]
    simp only [cV, cond_true, rD, Option.bind_some, Bool.true_and, Int.toNat_natCast]
    by_cases hlt : gN d (a - 1) < gN d p
    · simp only [gN] at hlt
      simp only [hlt, decide_true, Bool.not_true, cond_false]
      exact ptc
    · have := eqc ha hlt
      simp only [gN] at hlt
      simp only [hlt, decide_false, Bool.not_false, cond_true]
      exact this
  · have hd : decide ((0 : Int) < (a : Int)) = false := by simp; omega
    rw [hd, aJ (fun h => by cases h), aJ (fun h => by cases h)]
    simp only [cV, cond_false, Option.bind_some, Bool.false_and]
    exact ptc

theorem TZ {rec : PR} {N a b lim p : Nat} {d : List Int} (hrec : ER rec N) (hv : wY a b lim d) (h12 : 12 < b - a) (hp : a ≤ p ∧ p < b) (wb wp : Bool) (len hint : Int) :
    CO N a b d (gP rec d (a : Int) (b : Int) (lim : Int) wb wp len (p : Int) hint) := by
  unfold gP
  cases ((wb && wp) && (decide (hint = (1 : Int)))) with
  | false => exact UU hrec hv h12 hp wb wp len
  | true =>
    rw [cond_true]
    obtain ⟨fl, d', e, r, s⟩ := XZ (lo := a) (hi := b) (d := d) (by omega) hv.bl hv.len hv.bnd
    rw [e]
    simp only [Option.bind_some]
    cases fl with
    | true => exact .inr (.inl ⟨d', rfl, r, s rfl⟩)
    | false => exact (UU hrec (hv.rel r) h12 hp wb wp len).pre r

theorem UD {rec : PR} {N a b lim : Nat} {d : List Int} (hrec : ER rec N) (hv : wY a b lim d) (h12 : 12 < b - a) (wb wp : Bool) (len : Int) :
    CO N a b d (gR rec d (a : Int) (b : Int) (lim : Int) wb wp len) := by
  have hb := hv.bl; have hl := hv.len
  unfold gR
  obtain ⟨p, h, e, p1, p2⟩ := SL (lo := a) (hi := b) (d := d) h12 hb hl
  rw [e]
  simp only [Option.bind_some]
  by_cases h2 : h = 2
  · simp only [h2, decide_true, cond_true]
    obtain ⟨d', e2, r⟩ := UR (lo := a) (hi := b) (d := d) (by omega) hb (by omega)
    rw [e2]
    simp only [Option.bind_some]
    rw [wrN (x := (b : Int) - 1) (n := b - 1) (by omega) (by omega), wrN (x := (p : Int) - (a : Int)) (n := p - a) (by omega) (by omega), wrN (x := ((b - 1 : Nat) : Int) - ((p - a : Nat) : Int)) (n := b - 1 - (p - a)) (by omega) (by omega)]
    exact (TZ hrec (hv.rel r) h12 ⟨by omega, by omega⟩ wb wp len 1).pre r
  · simp only [h2, decide_false, cond_false]
    exact TZ hrec hv h12 ⟨p1, p2⟩ wb wp len h

theorem aAC {rec : PR} {N a b lim : Nat} {d : List Int} (hrec : ER rec N) (hv : wY a b lim d) (wb wp : Bool) :
    CO N a b d (eF rec d (a : Int) (b : Int) (lim : Int) wb wp) := by
  have hb := hv.bl; have hl := hv.len; have hab := hv.ab
  unfold eF
  rw [wrN (x := (b : Int) - (a : Int)) (n := b - a) (by omega) (by omega)]
  by_cases h12 : ((b - a : Nat) : Int) ≤ 12
  · simp only [h12, decide_true, cond_true]
    obtain ⟨d', e, r, s⟩ := XN (lo := a) (hi := b) (d := d) hb (by omega) hab
    rw [e]
    exact .inr (.inl ⟨d', rfl, r, s⟩)
  · simp only [h12, decide_false, cond_false]
    by_cases h0 : lim = 0
    · have : decide ((lim : Int) = 0) = true := by simp; exact h0
      rw [this, cond_true]
      obtain ⟨d', e, r, s⟩ := VG (lo := a) (hi := b) (d := d) (by omega) hb hl
      rw [e]
      exact .inr (.inl ⟨d', rfl, r, s⟩)
    · have : decide ((lim : Int) = 0) = false := by simp; exact h0
      rw [this, cond_false]
      cases wb with
      | true => exact UD hrec hv (by omega) true wp _
      | false =>
        simp only [Bool.not_false, cond_true]
        obtain ⟨d', e, r⟩ := UX (lo := a) (hi := b) (d := d) (by omega) hb hl
        rw [e]
        simp only [Option.bind_some]
        have hlim := hv.lim
        rw [wrN (x := (lim : Int) - 1) (n := lim - 1) (by omega) (by omega)]
        have hv' := hv.rel r
        exact (UD hrec ⟨hv'.ab, hv'.bl, hv'.len, hv'.bnd, by omega⟩ (by omega) false wp _).pre r

theorem aAi {S R : Type} {body : S → Option (S ⊕ R)} {s : S} (h : body s = none) : lp body s = none := by
  cases e : lp body s with
  | none => rfl
  | some r =>
    obtain ⟨k, hk⟩ := EV.1 e
    cases k with
    | zero => simp [iter] at hk
    | succ k => simp [iter, h] at hk

theorem aAy {rec : PR} {N : Nat} (hrec : ER rec N) : ∀ (n a b lim : Nat) (d : List Int) (wb wp : Bool), b - a = n → wY a b lim d →
    (lp (fun s : PS => eF rec s.1 s.2.1 s.2.2.1 s.2.2.2.1 s.2.2.2.2.1 s.2.2.2.2.2) (d, (a : Int), (b : Int), (lim : Int), wb, wp) = none ∧ N + 1 ≤ b - a) ∨
    ∃ d', lp (fun s : PS => eF rec s.1 s.2.1 s.2.2.1 s.2.2.2.1 s.2.2.2.2.1 s.2.2.2.2.2) (d, (a : Int), (b : Int), (lim : Int), wb, wp) = some d' ∧ xE a b d d' := by
  intro n
  induction n using Nat.strongRecOn with
  | ind n ih =>
    intro a b lim d wb wp hn hv
    rcases aAC hrec hv wb wp with ⟨h1, h2⟩ | ⟨d', h1, h2⟩ | ⟨d', a', b', lim', wb', wp', h1, h2, h3, h4⟩
    · exact .inl ⟨aAi h1, h2⟩
    · exact .inr ⟨d', cQ h1, h2⟩
    · rw [fB (show (fun s : PS => eF rec s.1 s.2.1 s.2.2.1 s.2.2.2.1 s.2.2.2.2.1 s.2.2.2.2.2) (d, (a : Int), (b : Int), (lim : Int), wb, wp) = _ from h1)]
      rcases ih (b' - a') (by omega) a' b' lim' d' wb' wp' rfl h3 with ⟨g1, g2⟩ | ⟨d2, g1, g2⟩
      · exact .inl ⟨g1, by omega⟩
      · exact .inr ⟨d2, g1, h4 d2 g2⟩

theorem OZ : ∀ k : Nat, ER (dI k) k
  | 0 => fun _ _ _ _ _ => .inl ⟨rfl, Nat.zero_le _⟩
  | k + 1 => fun d a b lim hv => by
    show (fP (dI k) d a b lim = none ∧ _) ∨ ∃ d', fP (dI k) d a b lim = some d' ∧ _
    unfold fP kQ
    rcases aAy (OZ k) (b - a) a b lim d true true rfl hv with ⟨h1, h2⟩ | ⟨d', h1, h2⟩
    · rw [h1]; exact .inl ⟨rfl, h2⟩
    · rw [h1]; exact .inr ⟨d', rfl, h2⟩

theorem aA1 {a b lim : Nat} {d : List Int} (hv : wY a b lim d) : ∃ d', jI d (a : Int) (b : Int) (lim : Int) = some d' ∧ xE a b d d' := by
  unfold jI
  obtain ⟨d', e, g⟩ : ∃ d', dI (b - a + 1) d (a : Int) (b : Int) (lim : Int) = some d' ∧ xE a b d d' := by
    rcases OZ (b - a + 1) d a b lim hv with ⟨_, h⟩ | h
    · omega
    · exact h
  cases hf : OC (fun k => dI k d (a : Int) (b : Int) (lim : Int)) with
  | none =>
    exfalso
    unfold OC at hf
    have hex : ∃ k r, dI k d (a : Int) (b : Int) (lim : Int) = some r := ⟨_, d', e⟩
    rw [dif_pos hex] at hf
    obtain ⟨r, hr⟩ := Classical.choose_spec hex
    have hf' : dI (Classical.choose hex) d (a : Int) (b : Int) (lim : Int) = none := hf
    rw [hr] at hf'
    cases hf'
  | some r =>
    obtain ⟨k, hk⟩ := LD hf
    rcases OZ k d a b lim hv with ⟨h, _⟩ | ⟨d2, h, g2⟩
    · rw [h] at hk; cases hk
    · rw [h] at hk; cases hk; exact ⟨_, rfl, g2⟩

theorem ZP {d : List Int} (hl : d.length < 2305843009213693951) : ∃ d', kH d = some d' ∧ d'.Perm d ∧ d'.Pairwise (· ≤ ·) := by
  unfold kH
  have hL : ∃ L : Nat, jX (IntKind.u64.wrap ((List.length d : Nat) : Int)) = some (L : Int) ∧ L ≤ 100 := by
    rw [EN (by omega) (by omega)]
    by_cases h0 : d.length = 0
    · rw [h0]; exact ⟨0, WW, by omega⟩
    · obtain ⟨k, e, h1, _⟩ := VC (x := ((List.length d : Nat) : Int)) (by omega) (by omega)
      exact ⟨k + 1, by rw [e]; rfl, by omega⟩
  obtain ⟨L, eL, hL⟩ := hL
  rw [eL]
  simp only [Option.bind_some]
  obtain ⟨d', e, g⟩ := aA1 (a := 0) (b := d.length) (lim := L) (d := d) ⟨Nat.zero_le _, Nat.le_refl _, hl, .inl rfl, hL⟩
  have e' : jI d 0 ((List.length d : Nat) : Int) (L : Int) = some d' := e
  rw [e']
  refine ⟨d', rfl, g.1.perm, List.pairwise_iff_getElem.2 fun i j hi hj hij => ?_⟩
  have := g.2 i j (Nat.zero_le _) (by omega) (by rw [g.1.len] at hj; exact hj)
  simp only [gN, List.getD_eq_getElem?_getD, List.getElem?_eq_getElem hi, List.getElem?_eq_getElem hj] at this
  exact this

end Go.Abs
namespace Go.Abs
open Go
theorem CK : ∀ {ps : List Int} {last : Int}, Inc last ps → ps.Pairwise (· < ·)
  | [], _, _ => List.Pairwise.nil
  | p :: r, last, h => List.Pairwise.cons (fun x hx => (h.2.above x hx).1) (CK h.2)

theorem aAk {ps : List Int} {last : Int} (h : Inc last ps) : ps.Pairwise (· ≤ ·) := (CK h).imp fun h => by omega

end Go.Abs
namespace Go.Abs
open Go
theorem FW {r : List aB} (h : r.length ≤ 4398046510976) : gT r = some r := by
  unfold gT
  rw [aJ (by omega)]

theorem TB {l : List aI} (hl : okL l) (hm : lK l = true) : (∀ g ∈ groups l, mG g.2 = true ∧ g.1.length ≤ 4398046510976) ∧ (groups l).length ≤ 4096 := by
  obtain ⟨h1, h2, _⟩ := mJ hm
  exact ⟨fun g hg => ⟨(h2 g hg).2, UZ hl hg⟩, by have := IE l; omega⟩

end Go.Abs
namespace Go.Abs
open Go
def okC (x : List bH) : Prop := x.length ≤ 1000000 ∧ ∀ c ∈ x, c.Row.length ≤ 17592186044416

theorem LS {x : List bH} (h : okC x) : nE x x = some true := by
  unfold nE oR
  rw [HQ rfl, cond_false]
  have h1 := h.1
  rw [AT (l := x) (body := fun s => kX x x s) (fun i => i) (fun _ => false) (.inr false) (.inl ()) ?_ ?_]
  · simp [mS]
  · intro i a ha
    obtain ⟨d1, d2, d3, d4⟩ := idx ha (by omega)
    simp only [kX, d1, cond_true, aJ d2, d3, d4, decide_true, Bool.not_true, Bool.not_false, cV, xZ a.Row a.Row (h.2 a (List.mem_of_getElem? ha)), Option.bind_some, Bool.false_or, cond_false]
    rw [aJ (fun _ => d2), aJ (fun _ => d2)]
    rfl
  · simp only [kX, iC, cond_false]

theorem MX {x : List aO} (h1 : x.length ≤ 1000000) (h : ∀ p ∈ x, okC p.Rows) : tF x x = some true := by
  unfold tF uT
  rw [HQ rfl, cond_false]
  rw [AT (l := x) (body := fun s => oY x x s) (fun i => i) (fun _ => false) (.inr false) (.inl ()) ?_ ?_]
  · simp [rX]
  · intro i a ha
    obtain ⟨d1, d2, d3, d4⟩ := idx ha (by omega)
    simp only [oY, d1, cond_true, aJ d2, d3, d4, decide_true, Bool.and_self, Bool.not_true, Bool.not_false, cV, LS (h a (List.mem_of_getElem? ha)), Option.bind_some, Bool.false_or, cond_false]
    rw [aJ (fun _ => d2), aJ (fun _ => d2)]
    rfl
  · simp only [oY, iC, cond_false]

def SG : aB := ⟨1, 1, ByteArray.empty⟩

def EX : aB := ⟨1, 2, ByteArray.empty⟩

end Go.Abs
namespace Go.Abs
open Go
def lB (e : aI) : Bool := decide (0 < e.Net) && decide (-1 < e.At)

def cH (l : List aI) : List Int := (l.filter lB).foldl (fun c e => lF e.At c) []

theorem HG {S : Type} {body : S → aI → Option (S ⊕ S)} {l : List aI} (hl : l.length ≤ 1000000) (f : S → aI → S) (Inv : S → List aI → Prop)
    (h : ∀ s e r, Inv s (e :: r) → (lB e = true → body s e = some (.inl (f s e)) ∧ Inv (f s e) r) ∧ (lB e = false → Inv s r)) {s : S} (hi : Inv s l) :
    lT (fun st e => rnd (fun s => body s e) st) l (.inl s : S ⊕ S) = some (.inl ((l.filter lB).foldl f s)) := by
  unfold lT oT
  rw [qS (l := l) (body := fun s : (S ⊕ S) × Int => jW (fun st e => rnd (fun s => body s e) st) l ((l.length : Nat) : Int) s.1 s.2) (fun (s : S) i => (.inl s, i)) (fun s r => .inl (.inl ((r.filter lB).foldl f s))) Inv s ?_ ?_ hi]
  · rfl
  · intro i e r s he hI
    left
    obtain ⟨d1, d2, d3, d4⟩ := idx he (by omega)
    obtain ⟨h1, h2⟩ := h s e r hI
    cases hr : lB e with
    | true =>
      obtain ⟨b1, b2⟩ := h1 hr
      refine ⟨f s e, ?_, b2, by simp [hr]⟩
      have hc : (decide (0 < e.Net) && decide (-1 < e.At)) = true := hr
      simp only [jW, d1, cond_true, aJ d2, d3, d4, hc, DU, rnd, b1, Option.bind_some, Bool.true_and]
      rfl
    | false =>
      refine ⟨s, ?_, h2 hr, by simp [hr]⟩
      have hc : (decide (0 < e.Net) && decide (-1 < e.At)) = false := hr
      simp only [jW, d1, cond_true, aJ d2, d3, d4, hc, DU, cond_false, Option.bind_some, Bool.false_and]
  · intro s _
    simp only [jW, iC, cond_false]
    rfl

theorem KM : ∀ {a b : List Int}, a.Pairwise (· < ·) → b.Pairwise (· < ·) → (∀ x, x ∈ a ↔ x ∈ b) → a = b
  | [], [], _, _, _ => rfl
  | [], y :: b, _, _, h => by have := (h y).2 (by simp); simp at this
  | x :: a, [], _, _, h => by have := (h x).1 (by simp); simp at this
  | x :: a, y :: b, ha, hb, h => by
    obtain ⟨a1, a2⟩ := List.pairwise_cons.1 ha
    obtain ⟨b1, b2⟩ := List.pairwise_cons.1 hb
    have hxy : x = y := by
      rcases List.mem_cons.1 ((h x).1 (by simp)) with h1 | h1
      · exact h1
      · rcases List.mem_cons.1 ((h y).2 (by simp)) with h2 | h2
        · exact h2.symm
        · have := a1 y h2; have := b1 x h1; omega
    subst hxy
    rw [KM a2 b2 fun z => ?_]
    constructor
    · intro hz
      rcases List.mem_cons.1 ((h z).1 (by simp [hz])) with h1 | h1
      · have := a1 z hz; omega
      · exact h1
    · intro hz
      rcases List.mem_cons.1 ((h z).2 (by simp [hz])) with h1 | h1
      · have := b1 z hz; omega
      · exact h1

theorem HO {d : List Int} (hd : d.Pairwise (· ≤ ·)) {i j : Nat} (hij : i ≤ j) (hj : j < d.length) : d.getD i 0 ≤ d.getD j 0 := by
  rw [List.getD_eq_getElem?_getD, List.getD_eq_getElem?_getD, List.getElem?_eq_getElem (by omega), List.getElem?_eq_getElem hj]
  rcases Nat.lt_or_ge i j with h | h
  · exact List.pairwise_iff_getElem.1 hd i j (by omega) hj h
  · have : i = j := by omega
    subst this; exact Int.le_refl _

theorem DS {d : List Int} {p : Nat} (hp : p < d.length) : d.take (p + 1) = d.take p ++ [d.getD p 0] := by
  rw [List.take_add_one, List.getElem?_eq_getElem hp, List.getD_eq_getElem?_getD, List.getElem?_eq_getElem hp]; rfl

theorem QB {d : List Int} (hd : d.Pairwise (· ≤ ·)) {p : Nat} (hp : p < d.length) {x : Int} (hx : x ∈ d.take (p + 1)) : x ≤ d.getD p 0 := by
  obtain ⟨i, hi⟩ := List.getElem?_of_mem hx
  rw [List.getElem?_take] at hi
  split at hi
  · rename_i hlt
    have := HO hd (i := i) (j := p) (by omega) hp
    rw [List.getD_eq_getElem?_getD (i := i), hi] at this
    exact this
  · cases hi

def Kept (d c : List Int) (p : Nat) : Prop := c.Pairwise (· < ·) ∧ ∀ x, x ∈ c ↔ x ∈ d.take p

theorem Kept.same {d c : List Int} {p : Nat} (h : Kept d c p) (h0 : 0 < p) (hp : p < d.length) (e : d.getD p 0 = d.getD (p - 1) 0) : Kept d c (p + 1) := by
  refine ⟨h.1, fun x => ?_⟩
  rw [h.2 x, DS hp, List.mem_append]
  constructor
  · exact .inl
  · rintro (h1 | h1)
    · exact h1
    · rw [List.mem_singleton.1 h1, e]
      have : p - 1 < p := by omega
      refine List.mem_of_getElem? (i := p - 1) ?_
      rw [List.getElem?_take, if_pos this, List.getD_eq_getElem?_getD, List.getElem?_eq_getElem (by omega)]; rfl

theorem Kept.more {d c : List Int} {p : Nat} (hd : d.Pairwise (· ≤ ·)) (h : Kept d c p) (h0 : 0 < p) (hp : p < d.length) (e : d.getD p 0 ≠ d.getD (p - 1) 0) : Kept d (c ++ [d.getD p 0]) (p + 1) := by
  have hle := HO hd (i := p - 1) (j := p) (by omega) hp
  refine ⟨?_, fun x => by rw [DS hp, List.mem_append, List.mem_append, h.2 x]⟩
  rw [List.pairwise_append]
  refine ⟨h.1, by simp, fun a ha b hb => ?_⟩
  rw [List.mem_singleton.1 hb]
  have ha' := (h.2 a).1 ha
  have : a ≤ d.getD (p - 1) 0 := by
    refine QB hd (by omega) ?_
    rwa [show p - 1 + 1 = p by omega]
  omega

theorem nT (d : List Int) (i : Nat) : d.getD i default = d.getD i 0 := rfl

theorem NI {d : List Int} (hd : d.Pairwise (· ≤ ·)) (hl : d.length ≤ 1000000) {k : Nat} (hk0 : 0 < k) (hk : k < d.length) {c : List Int} (hc : Kept d c (k + 1)) (hck : c = d.take k) :
    ∃ r, lp (fun s : List Int × Int × Int => fD (0 + Int.toNat ((k : Nat) : Int)) (d.length - Int.toNat ((k : Nat) : Int)) s.1 s.2.1 s.2.2) (d, ((k : Nat) : Int), 1) = some r ∧
      ∃ c' k3 : Nat → Nat, True ∧ ∃ (cc : List Int) (m : Nat), r.2 = ((m : Nat) : Int) ∧ r.1.length = d.length ∧ m ≤ d.length ∧ r.1.take m = cc ∧ Kept d cc d.length := by
  have key := OF (body := fun s : List Int × Int × Int => fD (0 + Int.toNat ((k : Nat) : Int)) (d.length - Int.toNat ((k : Nat) : Int)) s.1 s.2.1 s.2.2)
    (I := fun s => ∃ (k2 m : Nat), s.2.2 = ((k2 : Nat) : Int) ∧ s.2.1 = ((m : Nat) : Int) ∧ 0 < k2 ∧ k + k2 ≤ d.length ∧ s.1.length = d.length ∧ m + 1 ≤ k + k2 ∧ (∀ j, m ≤ j → s.1[j]? = d[j]?) ∧ Kept d (s.1.take m) (k + k2))
    (m := fun s => d.length + 1 - s.2.2.toNat) (Post := fun r => ∃ m : Nat, r.2 = ((m : Nat) : Int) ∧ r.1.length = d.length ∧ m ≤ d.length ∧ Kept d (r.1.take m) d.length) ?_ (s := (d, ((k : Nat) : Int), 1)) ?_
  · obtain ⟨r, h1, m, h2, h3, h4, h5⟩ := key
    exact ⟨r, h1, id, id, trivial, _, m, h2, h3, h4, rfl, h5⟩
  · rintro ⟨s0, k3, k25⟩ ⟨k2, m, e1, e2, g1, g2, g3, g4, g5, g6⟩
    simp only at e1 e2 g3 g5 g6
    subst e1 e2
    by_cases hlt : k + k2 < d.length
    · left
      have hat : ∀ j, m ≤ j → s0.getD j 0 = d.getD j 0 := fun j hj => by
        rw [List.getD_eq_getElem?_getD, List.getD_eq_getElem?_getD, g5 j hj]
      have w1 : IntKind.i64.wrap (((k2 : Nat) : Int) - 1) = ((k2 - 1 : Nat) : Int) := by rw [dB (by omega) (by omega)]; omega
      have w2 : IntKind.i64.wrap (((k2 : Nat) : Int) + 1) = ((k2 + 1 : Nat) : Int) := by rw [dB (by omega) (by omega)]; omega
      have w3 : IntKind.i64.wrap (((m : Nat) : Int) + 1) = ((m + 1 : Nat) : Int) := by rw [dB (by omega) (by omega)]; omega
      have c1 : decide (((k2 : Nat) : Int) < ((d.length - Int.toNat ((k : Nat) : Int) : Nat) : Int)) = true := by
        rw [decide_eq_true_eq]; simp only [Int.toNat_natCast]; omega
      have c2 : (0 : Int) ≤ ((k2 : Nat) : Int) ∧ ((k2 : Nat) : Int) < ((d.length - Int.toNat ((k : Nat) : Int) : Nat) : Int) := ⟨by omega, by simp only [Int.toNat_natCast]; omega⟩
      have c3 : 0 + Int.toNat ((k : Nat) : Int) + Int.toNat ((k2 : Nat) : Int) < s0.length := by simp only [Int.toNat_natCast]; omega
      have c4 : (0 : Int) ≤ ((k2 - 1 : Nat) : Int) ∧ ((k2 - 1 : Nat) : Int) < ((d.length - Int.toNat ((k : Nat) : Int) : Nat) : Int) := ⟨by omega, by simp only [Int.toNat_natCast]; omega⟩
      have c5 : 0 + Int.toNat ((k : Nat) : Int) + Int.toNat ((k2 - 1 : Nat) : Int) < s0.length := by simp only [Int.toNat_natCast]; omega
      have c6 : (0 : Int) ≤ ((m : Nat) : Int) ∧ ((m : Nat) : Int) < ((s0.length : Nat) : Int) := ⟨by omega, by omega⟩
      have i1 : s0.getD (0 + Int.toNat ((k : Nat) : Int) + Int.toNat ((k2 : Nat) : Int)) default = d.getD (k + k2) 0 := by
        rw [nT, show 0 + Int.toNat ((k : Nat) : Int) + Int.toNat ((k2 : Nat) : Int) = k + k2 by simp only [Int.toNat_natCast]; omega]; exact hat _ (by omega)
      have i2 : s0.getD (0 + Int.toNat ((k : Nat) : Int) + Int.toNat ((k2 - 1 : Nat) : Int)) default = d.getD (k + k2 - 1) 0 := by
        rw [nT, show 0 + Int.toNat ((k : Nat) : Int) + Int.toNat ((k2 - 1 : Nat) : Int) = k + k2 - 1 by simp only [Int.toNat_natCast]; omega]; exact hat _ (by omega)
      by_cases he : d.getD (k + k2) 0 = d.getD (k + k2 - 1) 0
      · refine ⟨(s0, ((m : Nat) : Int), ((k2 + 1 : Nat) : Int)), ?_, ⟨k2 + 1, m, rfl, rfl, by omega, by omega, g3, by omega, g5, ?_⟩, by simp only [Int.toNat_natCast]; omega⟩
        · simp only [fD, iT, c1, cond_true, aJ c2, aJ c3, w1, aJ c4, aJ c5, i1, i2, he, decide_true, Bool.not_true, cond_false, w2]
        · exact g6.same (by omega) hlt he
      · refine ⟨(s0.set m (d.getD (k + k2) 0), ((m + 1 : Nat) : Int), ((k2 + 1 : Nat) : Int)), ?_, ⟨k2 + 1, m + 1, rfl, rfl, by omega, by omega, by simpa using g3, by omega, fun j hj => ?_, ?_⟩, by simp only [Int.toNat_natCast]; omega⟩
        · simp only [fD, iT, c1, cond_true, aJ c2, aJ c3, w1, aJ c4, aJ c5, i1, i2, decide_eq_false he, Bool.not_false, aJ c6, w2, w3]
          rfl
        · simp only
          rw [List.getElem?_set_ne (by omega)]; exact g5 j (by omega)
        · have h1 := g6.more hd (by omega) hlt he
          have h2 : (s0.set m (d.getD (k + k2) 0)).take (m + 1) = s0.take m ++ [d.getD (k + k2) 0] := by
            rw [List.take_add_one, List.take_set_of_le (Nat.le_refl m), List.getElem?_set_self (by omega)]; rfl
          simp only
          rw [h2]; exact h1
    · right
      have hk2 : k + k2 = d.length := by omega
      refine ⟨(s0, ((m : Nat) : Int)), ?_, m, rfl, g3, by omega, by rw [← hk2]; exact g6⟩
      have c1 : decide (((k2 : Nat) : Int) < ((d.length - Int.toNat ((k : Nat) : Int) : Nat) : Int)) = false := by
        rw [decide_eq_false_iff_not]; simp only [Int.toNat_natCast]; omega
      simp only [fD, c1, cond_false]
  · refine ⟨1, k, rfl, rfl, by omega, by omega, rfl, by omega, fun _ _ => rfl, ?_⟩
    rw [← hck]; exact hc

theorem TE {k : Nat} {d : List Int} : (jM k d).take k = d.take k := by
  unfold jM
  by_cases h : k ≤ d.length
  · rw [List.take_append_of_le_length (by simp; omega), List.take_take]; simp
  · have e1 : d.take k = d := List.take_of_length_le (by omega)
    rw [e1, show d.length - k = 0 by omega, List.replicate_zero, List.append_nil, e1]

theorem SU {d : List Int} (hd : d.Pairwise (· ≤ ·)) (hl : d.length ≤ 1000000) : ∃ c, jD d = some c ∧ Kept d c d.length := by
  unfold jD
  by_cases h2 : d.length < 2
  · rw [decide_eq_true (by omega), cond_true]
    refine ⟨d, rfl, ?_, fun x => by rw [List.take_length]⟩
    match d, h2 with
    | [], _ => exact List.Pairwise.nil
    | [x], _ => exact List.pairwise_singleton ..
    | _ :: _ :: _, h => simp at h; omega
  · rw [decide_eq_false (by omega), cond_false]
    unfold lY
    have key := OF (body := fun s : List Int × Int => gH s.1 s.2)
      (I := fun s => s.1 = d ∧ ∃ k : Nat, s.2 = ((k : Nat) : Int) ∧ 0 < k ∧ k ≤ d.length ∧ (d.take k).Pairwise (· < ·)) (m := fun s => d.length + 1 - s.2.toNat)
      (Post := fun r => ∃ c, Sum.elim (fun rr : List Int => kA rr) (fun rr => some rr) r = some c ∧ Kept d c d.length) ?_ (s := (d, 1)) ?_
    · obtain ⟨r, h3, c, h4, h5⟩ := key
      rw [h3, Option.bind_some]
      exact ⟨c, h4, h5⟩
    · rintro ⟨s0, k3⟩ ⟨e1, k, e2, g1, g2, g3⟩
      simp only at e1 e2
      subst e1 e2
      by_cases hlt : k < s0.length
      · have w1 : IntKind.i64.wrap (((k : Nat) : Int) - 1) = ((k - 1 : Nat) : Int) := by rw [dB (by omega) (by omega)]; omega
        have w2 : IntKind.i64.wrap (((k : Nat) : Int) + 1) = ((k + 1 : Nat) : Int) := by rw [dB (by omega) (by omega)]; omega
        have c1 : (0 : Int) ≤ ((k : Nat) : Int) ∧ ((k : Nat) : Int) < ((s0.length : Nat) : Int) := ⟨by omega, by omega⟩
        have c2 : (0 : Int) ≤ ((k - 1 : Nat) : Int) ∧ ((k - 1 : Nat) : Int) < ((s0.length : Nat) : Int) := ⟨by omega, by omega⟩
        have hK : Kept s0 (s0.take k) k := ⟨g3, fun _ => Iff.rfl⟩
        by_cases he : s0.getD k 0 = s0.getD (k - 1) 0
        · right
          obtain ⟨r, h3, _, _, _, cc, m, h4, h5, h6, h7, h8⟩ := NI hd hl g1 hlt (hK.same g1 hlt he) rfl
          refine ⟨.inr cc, ?_, cc, rfl, h8⟩
          have c3 : (0 : Int) ≤ ((k : Nat) : Int) ∧ ((k : Nat) : Int) ≤ ((s0.length : Nat) : Int) := ⟨by omega, by omega⟩
          simp only [gH, decide_eq_true c1.2, cond_true, aJ c1, w1, aJ c2, Int.toNat_natCast, nT, he, decide_true, aJ c3, mA]
          rw [Int.toNat_natCast] at h3
          rw [h3, Option.bind_some]
          unfold kG
          rw [h4, aJ (by omega), aJ (by rw [clearL_len]; omega), aJ (by rw [clearL_len, Int.toNat_natCast]; omega), Int.toNat_natCast, Nat.zero_add, TE, h7]
        · left
          refine ⟨(s0, ((k + 1 : Nat) : Int)), ?_, ⟨rfl, k + 1, rfl, by omega, by omega, ?_⟩, by simp only [Int.toNat_natCast]; omega⟩
          · simp only [gH, lX, decide_eq_true c1.2, cond_true, aJ c1, w1, aJ c2, Int.toNat_natCast, nT, decide_eq_false he, cond_false, w2]
          · rw [DS hlt]
            exact (hK.more hd g1 hlt he).1
      · right
        have hk : k = s0.length := by omega
        subst hk
        refine ⟨.inl s0, ?_, s0, rfl, ?_, fun x => by rw [List.take_length]⟩
        · simp only [gH, iC, cond_false]
        · rwa [List.take_length] at g3
    · refine ⟨rfl, 1, rfl, by omega, by omega, ?_⟩
      match d, h2 with
      | x :: r, _ => simp
      | [], h => simp at h

theorem IA {l : List aI} : ∀ {c : List Int}, (∀ e ∈ l, lB e = true ∧ e.At < 1125899906842624) → Inc (-1) c → Inc (-1) (l.foldl (fun c e => lF e.At c) c) ∧ (∀ x, x ∈ l.foldl (fun c e => lF e.At c) c ↔ x ∈ c ∨ ∃ e ∈ l, e.At = x) := by
  induction l with
  | nil => intro c _ hi; exact ⟨hi, fun x => by simp⟩
  | cons e l ih =>
    intro c he hi
    have h1 := he e (by simp)
    have hr : -1 < e.At := by have := h1.1; simp [lB] at this; omega
    obtain ⟨i1, i2⟩ := ih (c := lF e.At c) (fun q hq => he q (by simp [hq])) (EF hi hr h1.2)
    refine ⟨i1, fun x => ?_⟩
    rw [List.foldl_cons, i2 x, LG]
    constructor
    · rintro ((h | h) | ⟨q, h, h'⟩)
      · exact .inr ⟨e, by simp, h.symm⟩
      · exact .inl h
      · exact .inr ⟨q, by simp [h], h'⟩
    · rintro (h | ⟨q, h, h'⟩)
      · exact .inl (.inr h)
      · rcases List.mem_cons.1 h with rfl | h
        · exact .inl (.inl h'.symm)
        · exact .inr ⟨q, h, h'⟩

theorem FT {l : List aI} (h : ∀ e ∈ l, e.At < 1125899906842624) : Inc (-1) (cH l) :=
  (IA (c := []) (fun e he => by have := List.mem_filter.1 he; exact ⟨this.2, h e this.1⟩) trivial).1

theorem PT {l : List aI} (h : ∀ e ∈ l, e.At < 1125899906842624) {x : Int} : x ∈ cH l ↔ ∃ e ∈ l, lB e = true ∧ e.At = x := by
  unfold cH
  rw [(IA (c := []) (fun e he => by have := List.mem_filter.1 he; exact ⟨this.2, h e this.1⟩) trivial).2 x]
  constructor
  · rintro (h1 | ⟨e, h1, h2⟩)
    · simp at h1
    · have := List.mem_filter.1 h1; exact ⟨e, this.1, this.2, h2⟩
  · rintro ⟨e, h1, h2, h3⟩
    exact .inr ⟨e, List.mem_filter.2 ⟨h1, h2⟩, h3⟩

theorem VS {l : List aI} : ∀ {c : List Int}, l.foldl (fun c e => c ++ [e.At]) c = c ++ l.map (·.At) := by
  induction l with
  | nil => intro c; simp
  | cons e l ih => intro c; rw [List.foldl_cons, ih]; simp

theorem vT {l : List aI} (hn : l.length ≤ 4096) (hat : ∀ e ∈ l, e.At < 1125899906842624) : mI l = some (cH l) := by
  unfold mI nV
  rw [Option.bind_some]
  unfold rA
  rw [HG (by omega) (fun s e => s ++ [e.At]) (fun s r => s.length + r.length ≤ 1000000) (fun s e r hI => ⟨fun _ => ⟨?_, ?_⟩, fun _ => ?_⟩) (by simp; omega), Option.bind_some, Sum.elim_inl, VS, List.nil_append]
  · have hfl := List.length_filter_le lB l
    obtain ⟨d', h1, h2, h3⟩ := ZP (d := (l.filter lB).map (·.At)) (by simp; omega)
    have hdl : d'.length ≤ 4096 := by rw [h2.length_eq, List.length_map]; omega
    obtain ⟨c, h4, h5⟩ := SU h3 (by omega)
    rw [h1, Option.bind_some, h4, Option.bind_some]
    congr 1
    refine KM h5.1 (CK (FT hat)) fun x => ?_
    rw [h5.2 x, List.take_length, h2.mem_iff, PT hat, List.mem_map]
    constructor
    · rintro ⟨e, q1, q2⟩
      have := List.mem_filter.1 q1; exact ⟨e, this.1, this.2, q2⟩
    · rintro ⟨e, q1, q2, q3⟩
      exact ⟨e, List.mem_filter.2 ⟨q1, q2⟩, q3⟩
  · simp only [List.length_cons] at hI
    unfold oM
    rw [aJ (by simp only [List.length_cons, List.length_nil]; omega)]
  · simp only [List.length_cons, List.length_append, List.length_nil] at hI ⊢; omega
  · simp only [List.length_cons] at hI; omega

theorem PM (l : List aI) : (cH l).length ≤ l.length := by
  have key : ∀ (l : List aI) (c : List Int), (l.foldl (fun c e => lF e.At c) c).length ≤ c.length + l.length := by
    intro l
    induction l with
    | nil => intro c; simp
    | cons e l ih => intro c; rw [List.foldl_cons]; have := ih (lF e.At c); have := ED (t := e.At) (ps := c); simp only [List.length_cons]; omega
  have h1 := key (l.filter lB) []
  have h2 := List.length_filter_le lB l
  simp only [List.length_nil] at h1
  unfold cH; omega

end Go.Abs
namespace Go.Abs
open Go
theorem YL {a : List Int} {t : Int} {m : Nat} (h1 : ∀ x ∈ a.take m, x < t) (h2 : ∀ x ∈ a.drop m, t ≤ x) : (a.filter fun x => decide (x < t)) = a.take m ∧ (a.filter fun x => decide (t ≤ x)) = a.drop m := by
  have e : a = a.take m ++ a.drop m := (List.take_append_drop m a).symm
  have e1 : (a.take m).filter (fun x => decide (x < t)) = a.take m := List.filter_eq_self.2 fun x hx => by simpa using h1 x hx
  have e2 : (a.drop m).filter (fun x => decide (x < t)) = [] := List.filter_eq_nil_iff.2 fun x hx => by have := h2 x hx; simp; omega
  have e3 : (a.take m).filter (fun x => decide (t ≤ x)) = [] := List.filter_eq_nil_iff.2 fun x hx => by have := h1 x hx; simp; omega
  have e4 : (a.drop m).filter (fun x => decide (t ≤ x)) = a.drop m := List.filter_eq_self.2 fun x hx => by simpa using h2 x hx
  constructor
  · conv => lhs; rw [e]
    rw [List.filter_append, e1, e2, List.append_nil]
  · conv => lhs; rw [e]
    rw [List.filter_append, e3, e4, List.nil_append]

theorem RL (x y : Int) : cW x y = some (decide (x < y)) := by simp [cW, kD, cV]

theorem aBc {a : List Int} (hd : a.Pairwise (· ≤ ·)) (hl : a.length ≤ 1000000) (t : Int) : ∃ (m : Nat) (b : Bool), fA a t = some (((m : Nat) : Int), b) ∧ m ≤ a.length ∧ (a.filter fun x => decide (x < t)) = a.take m ∧ (a.filter fun x => decide (t ≤ x)) = a.drop m := by
  unfold fA kF
  have key := OF (body := fun s : Int × Int => eR a t ((a.length : Nat) : Int) s.1 s.2)
    (I := fun s => ∃ i j : Nat, s.1 = ((i : Nat) : Int) ∧ s.2 = ((j : Nat) : Int) ∧ i ≤ j ∧ j ≤ a.length ∧ (∀ k, k < i → a.getD k 0 < t) ∧ ∀ k, j ≤ k → k < a.length → t ≤ a.getD k 0)
    (m := fun s => s.2.toNat - s.1.toNat) (Post := fun r => ∃ m : Nat, r = ((m : Nat) : Int) ∧ m ≤ a.length ∧ (∀ k, k < m → a.getD k 0 < t) ∧ ∀ k, m ≤ k → k < a.length → t ≤ a.getD k 0) ?_ (s := (0, ((a.length : Nat) : Int))) ?_
  · obtain ⟨r, h1, m, rfl, h2, h3, h4⟩ := key
    rw [h1, Option.bind_some]
    have hs := YL (a := a) (t := t) (m := m) (fun x hx => by
      obtain ⟨k, hk⟩ := List.getElem?_of_mem hx
      rw [List.getElem?_take] at hk
      split at hk
      · rename_i hlt
        have := h3 k hlt
        rwa [List.getD_eq_getElem?_getD, hk] at this
      · cases hk) (fun x hx => by
      obtain ⟨k, hk⟩ := List.getElem?_of_mem hx
      rw [List.getElem?_drop] at hk
      have hlt := (List.getElem?_eq_some_iff.1 hk).1
      have := h4 (m + k) (by omega) hlt
      rwa [List.getD_eq_getElem?_getD, hk] at this)
    unfold iG
    have c1 : ∀ b : Bool, (b && decide (((m : Nat) : Int) < ((a.length : Nat) : Int))) = true → (0 : Int) ≤ ((m : Nat) : Int) ∧ ((m : Nat) : Int) < ((a.length : Nat) : Int) := fun b hb => by
      simp only [Bool.and_eq_true, decide_eq_true_eq] at hb; omega
    rw [aJ (fun hb => by have := of_decide_eq_true hb; omega), aJ (c1 _)]
    simp only [nD, cV]
    cases (!decide (a.getD (Int.toNat ((m : Nat) : Int)) default = t) && decide (((m : Nat) : Int) < ((a.length : Nat) : Int))) <;> simp only [cond_true, cond_false, Option.bind_some, Bool.and_true, Bool.and_false, decide_true, Bool.not_true]
    · exact ⟨m, _, rfl, h2, hs.1, hs.2⟩
    · exact ⟨m, _, rfl, h2, hs.1, hs.2⟩
  · rintro ⟨x, y⟩ ⟨i, j, e1, e2, g1, g2, g3, g4⟩
    simp only at e1 e2
    subst e1 e2
    by_cases hij : i < j
    · left
      have hm : IntKind.i64.wrap (Int.fdiv (IntKind.u64.wrap (IntKind.i64.wrap (((i : Nat) : Int) + ((j : Nat) : Int)))) (2 ^ (min (Int.toNat (1 : Int)) 64))) = (((i + j) / 2 : Nat) : Int) := by
        rw [← Int.natCast_add]; exact half (by omega)
      have c1 : (0 : Int) ≤ (((i + j) / 2 : Nat) : Int) ∧ (((i + j) / 2 : Nat) : Int) < ((a.length : Nat) : Int) := ⟨by omega, by omega⟩
      have w1 : IntKind.i64.wrap ((((i + j) / 2 : Nat) : Int) + 1) = (((i + j) / 2 + 1 : Nat) : Int) := by rw [dB (by omega) (by omega)]; omega
      by_cases hc : a.getD ((i + j) / 2) 0 < t
      · refine ⟨((((i + j) / 2 + 1 : Nat) : Int), ((j : Nat) : Int)), ?_, ⟨(i + j) / 2 + 1, j, rfl, rfl, by omega, g2, fun k hk => ?_, g4⟩, by simp only [Int.toNat_natCast]; omega⟩
        · simp only [eR, decide_eq_true (show ((i : Nat) : Int) < ((j : Nat) : Int) by omega), cond_true, aJ (show (0 : Int) ≤ 1 by decide), hm, aJ c1, Int.toNat_natCast, nT, RL, Option.bind_some, w1]
          rw [decide_eq_true hc, cond_true]
        · have := HO hd (i := k) (j := (i + j) / 2) (by omega) (by omega); omega
      · refine ⟨(((i : Nat) : Int), (((i + j) / 2 : Nat) : Int)), ?_, ⟨i, (i + j) / 2, rfl, rfl, by omega, by omega, g3, fun k hk hkl => ?_⟩, by simp only [Int.toNat_natCast]; omega⟩
        · simp only [eR, decide_eq_true (show ((i : Nat) : Int) < ((j : Nat) : Int) by omega), cond_true, aJ (show (0 : Int) ≤ 1 by decide), hm, aJ c1, Int.toNat_natCast, nT, RL, Option.bind_some, w1]
          rw [decide_eq_false hc, cond_false]
        · have := HO hd (i := (i + j) / 2) (j := k) (by omega) hkl; omega
    · right
      refine ⟨((i : Nat) : Int), ?_, i, rfl, by omega, g3, fun k hk hkl => g4 k (by omega) hkl⟩
      simp only [eR, decide_eq_false (show ¬ ((i : Nat) : Int) < ((j : Nat) : Int) by omega), cond_false]
  · exact ⟨0, a.length, rfl, rfl, by omega, Nat.le_refl _, fun k hk => by omega, fun k h1 h2 => by omega⟩

def lV (l : List aI) (n : Int) : Int := if !lK l || decide (n < 1) || decide (64 < n) then 2 else if !pK l then 20 else 0

theorem yU {l : List aI} (hl : okL l) (n : Int) : oE l n = some (lV l n) := by
  unfold oE lV
  rw [aAe hl, Option.bind_some]
  cases (!lK l || decide (n < 1) || decide (64 < n)) with
  | true => rfl
  | false =>
    rw [cond_false, VJ hl, Option.bind_some]
    cases pK l <;> rfl

theorem FV {l : List aI} (hl : okL l) (n : Int) : pF l n = some (lV l n) := by
  unfold pF lV
  rw [IX hl, Option.bind_some]
  cases (!lK l || decide (n < 1) || decide (64 < n)) with
  | true => rfl
  | false =>
    rw [cond_false, OU hl, Option.bind_some]
    cases pK l <;> rfl

theorem vO {l : List aI} {n : Int} (h : lV l n = 0) : lK l = true ∧ pK l = true ∧ 1 ≤ n ∧ n ≤ 64 := by
  unfold lV at h
  cases hm : lK l with
  | false => simp [hm] at h
  | true =>
    cases ht : pK l with
    | false => rw [hm, ht] at h; split at h <;> simp at h
    | true =>
      rw [hm, ht] at h
      split at h
      · simp at h
      · rename_i c; simp at c; exact ⟨rfl, rfl, by omega, by omega⟩

theorem UB {l : List aI} {n : Int} (hm : lK l = true) (ht : pK l = true) (h1 : 1 ≤ n) (h2 : n ≤ 64) : lV l n = 0 := by
  unfold lV
  have e1 : decide (n < 1) = false := by simp; omega
  have e2 : decide (64 < n) = false := by simp; omega
  rw [hm, ht, e1, e2]; rfl

theorem DL {l : List aI} (hm : lK l = true) : ∀ e ∈ l, e.At < 1125899906842624 := fun e he => (yP hm he).2.2.1

def wW (l : List aI) : List Int × Int := if lV l 1 ≠ 0 then ([], lV l 1) else (cH l, 0)

theorem HB {l : List aI} (hl : okL l) : pN l = some (wW l) := by
  unfold pN wW
  rw [yU hl, Option.bind_some]
  by_cases h : lV l 1 = 0
  · obtain ⟨hm, _⟩ := vO h
    rw [decide_eq_true h, Bool.not_true, cond_false, vT (mJ hm).1 (DL hm), Option.bind_some, if_neg (by simpa using h)]
  · rw [decide_eq_false h, Bool.not_false, cond_true, if_pos h]

theorem NM {l : List aI} (hl : l.length ≤ 1000000) (hat : ∀ e ∈ l, e.At < 1125899906842624) : lp (fun s : List Int × Int => kV l s.1 s.2) ([], 0) = some (cH l) := by
  refine qS (l := l) (body := fun s : List Int × Int => kV l s.1 s.2) (fun (s : List Int) i => (s, i)) (fun s r => (r.filter lB).foldl (fun c e => lF e.At c) s) (fun s r => Inc (-1) s ∧ s.length + r.length ≤ 1000001 ∧ ∀ e ∈ r, e.At < 1125899906842624) [] ?_ ?_ ⟨trivial, by simp; omega, hat⟩
  · rintro i a r s ha ⟨hi, hs, hr⟩
    left
    obtain ⟨d1, d2, d3, d4⟩ := idx ha (by omega)
    simp only [List.length_cons] at hs
    have ha1 := hr a (by simp)
    have hr' : ∀ e ∈ r, e.At < 1125899906842624 := fun e he => hr e (by simp [he])
    have ec : (decide (0 < a.Net) && decide (0 ≤ a.At)) = lB a := by
      unfold lB
      congr 1
    cases h : lB a with
    | true =>
      have h0 : -1 < a.At := by simp [lB] at h; omega
      refine ⟨lF a.At s, ?_, ⟨EF hi h0 ha1, by have := ED (t := a.At) (ps := s); omega, hr'⟩, by simp [h]⟩
      simp only [kV, nJ, d1, cond_true, aJ d2, d3, d4]
      rw [aJ (fun _ => d2), ec, h, cond_true, ZT hi (by omega)]; rfl
    | false =>
      refine ⟨s, ?_, ⟨hi, by omega, hr'⟩, by simp [h]⟩
      simp only [kV, nJ, d1, cond_true, aJ d2, d3, d4]
      rw [aJ (fun _ => d2), ec, h, cond_false]
  · rintro s _
    simp only [kV, iC, cond_false]; rfl

theorem LP {l : List aI} (hl : okL l) : qR l = some (wW l) := by
  unfold qR wW
  rw [FV hl, Option.bind_some]
  by_cases h : lV l 1 = 0
  · obtain ⟨hm, _⟩ := vO h
    rw [decide_eq_true h, Bool.not_true, cond_false, if_neg (by simpa using h)]
    unfold sR
    rw [NM (by have := (mJ hm).1; omega) (DL hm)]; rfl
  · rw [decide_eq_false h, Bool.not_false, cond_true, if_pos h]

def jA (a : List Int) (t : Int) : Nat := (a.filter fun x => decide (x < t)).length

def firstM (a : List Int) (n t : Int) : Nat := ((jA a t : Int) - n + 1).toNat

def YW (a : List Int) (n t : Int) : Int := if firstM a n t = jA a t then t else a.getD (firstM a n t) 0

def TM (l : List aI) (n t : Int) : Int × Int :=
  if lV l n ≠ 0 then (0, lV l n) else if t < 0 ∨ 1125899906842624 < t then (0, 13) else if t = 1125899906842624 then (t, 0) else (YW (cH l) n t, 0)

theorem GN (a : List Int) (t : Int) : jA a t ≤ a.length := List.length_filter_le ..

theorem RX {a : List Int} (hd : a.Pairwise (· ≤ ·)) (hl : a.length ≤ 1000000) (t : Int) : (∃ b : Bool, fA a t = some (((jA a t : Nat) : Int), b)) ∧ (a.filter fun x => decide (x < t)) = a.take (jA a t) ∧ (a.filter fun x => decide (t ≤ x)) = a.drop (jA a t) := by
  obtain ⟨m, b, h1, h2, h3, h4⟩ := aBc hd hl t
  have hm : jA a t = m := by unfold jA; rw [h3, List.length_take]; omega
  rw [hm]; exact ⟨⟨b, h1⟩, h3, h4⟩

theorem wA {l : List aI} (hm : lK l = true) : (cH l).Pairwise (· < ·) ∧ (cH l).Pairwise (· ≤ ·) ∧ (cH l).length ≤ 4096 ∧ ∀ x ∈ cH l, 0 ≤ x ∧ x < 1125899906842624 := by
  have hi := FT (DL hm)
  refine ⟨CK hi, aAk hi, by have := PM l; have := (mJ hm).1; omega, fun x hx => by have := hi.above x hx; omega⟩

theorem LN {l : List aI} (hl : okL l) (n t : Int) : rU l n t = some (TM l n t) := by
  unfold rU TM
  rw [yU hl, Option.bind_some]
  by_cases h : lV l n = 0
  · obtain ⟨hm, _, n1, n2⟩ := vO h
    obtain ⟨f1, f2, f3, f4⟩ := wA hm
    rw [decide_eq_true h, Bool.not_true, cond_false, if_neg (by simpa using h)]
    by_cases h1 : t < 0 ∨ 1125899906842624 < t
    · have : (decide (t < 0) || decide (1125899906842624 < t)) = true := by simpa using h1
      rw [this, cond_true, if_pos h1]
    · have : (decide (t < 0) || decide (1125899906842624 < t)) = false := by simpa using h1
      rw [this, cond_false, if_neg h1]
      by_cases h2 : t = 1125899906842624
      · rw [decide_eq_true h2, cond_true, if_pos h2]
      · rw [decide_eq_false h2, cond_false, if_neg h2, vT (mJ hm).1 (DL hm), Option.bind_some]
        obtain ⟨⟨b, hb⟩, hs1, hs2⟩ := RX f2 (by omega) t
        have hle := GN (cH l) t
        rw [hb, Option.bind_some]
        have w1 : IntKind.i64.wrap (IntKind.i64.wrap (((jA (cH l) t : Nat) : Int) - n) + 1) = ((jA (cH l) t : Nat) : Int) - n + 1 := by
          rw [dB (n := ((jA (cH l) t : Nat) : Int) - n) (by omega) (by omega), dB (by omega) (by omega)]
        have e1 : (if IntKind.i64.wrap (IntKind.i64.wrap (((jA (cH l) t : Nat) : Int) - n) + 1) > 0 then IntKind.i64.wrap (IntKind.i64.wrap (((jA (cH l) t : Nat) : Int) - n) + 1) else 0) = ((firstM (cH l) n t : Nat) : Int) := by
          rw [w1]; unfold firstM
          split <;> omega
        simp only [e1]
        unfold YW
        by_cases hf : firstM (cH l) n t = jA (cH l) t
        · rw [decide_eq_true (by omega), cond_true, if_pos hf]
        · have hlt : firstM (cH l) n t < jA (cH l) t := by unfold firstM at hf ⊢; omega
          rw [decide_eq_false (by omega), cond_false, if_neg hf, aJ (by omega), Int.toNat_natCast]; rfl
  · rw [decide_eq_false h, Bool.not_false, cond_true, if_pos h]

theorem WR (l : List aI) : xF l = some (decide (((l.length : Nat) : Int) ≤ 60)) := rfl

end Go.Abs
namespace Go.Abs
open Go
theorem SF (a b : List aB) (hl : a.length ≤ 17592186044416) : fJ a b = some (decide (a = b)) := by
  have := HU a b hl
  unfold tT at this
  simpa using this

def inW (a b : Int) (j : aM) : Bool := decide (0 < j.Net) && (decide (a ≤ j.At) && decide (j.At < b))

def oV (a b : Int) (f : List aM) : Int := ((f.filter (inW a b)).map aM.Net).sum

def uU (a b : Int) (gs : List (List aB × List aM)) : List bH := gs.filterMap fun g => if 0 < oV a b g.2 then some ⟨g.1, oV a b g.2⟩ else none

def yH (rs : List bH) : bH := rs.getD (rs.length - 1) default

def xU (rs : List bH) (e : aI) : List bH := if 0 < rs.length ∧ (yH rs).Row = e.Row then rs.set (rs.length - 1) ⟨(yH rs).Row, (yH rs).N + e.Net⟩ else rs ++ [⟨e.Row, e.Net⟩]

def zN (p : aO) (e : aI) : aO := if e.At < p.Span.From ∨ p.Span.To ≤ e.At then p else ⟨p.Span, xU p.Rows e⟩

def oQ (a b : Int) (rs : List bH) (e : aI) : List bH := if inW a b (jE e) then xU rs e else rs

theorem xN (a b : Int) (j : aM) (f : List aM) : oV a b (j :: f) = (if inW a b j then j.Net else 0) + oV a b f := by
  unfold oV
  by_cases h : inW a b j <;> simp [h]

theorem FP (a b : Int) : ∀ f : List aM, 0 ≤ oV a b f ∧ (oV a b f = 0 ↔ f.filter (inW a b) = [])
  | [] => by simp [oV]
  | j :: f => by
    obtain ⟨h1, h2⟩ := FP a b f
    rw [xN]
    by_cases h : inW a b j
    · have : 0 < j.Net := by simp [inW] at h; omega
      rw [if_pos h]
      refine ⟨by omega, ?_⟩
      constructor
      · intro e; omega
      · intro e; simp [h] at e
    · rw [if_neg h, Int.zero_add]
      refine ⟨h1, ?_⟩
      rw [h2]; simp [h]

theorem IY (a b : Int) (g : List aB × List aM) (gs : List (List aB × List aM)) : uU a b (g :: gs) = (if 0 < oV a b g.2 then [⟨g.1, oV a b g.2⟩] else []) ++ uU a b gs := by
  unfold uU
  rw [List.filterMap_cons]
  by_cases h : 0 < oV a b g.2 <;> simp [h]

theorem TC (R : List bH) (c : bH) : yH (R ++ [c]) = c := by
  unfold yH
  simp [List.getD_eq_getElem?_getD]

theorem XH (R : List bH) (c d : bH) : (R ++ [c]).set ((R ++ [c]).length - 1) d = R ++ [d] := by
  simp [List.set_append_right]

theorem JS (a b : Int) (r : List aB) : ∀ (f : List aM) (R : List bH) (v : Int), (nS r f).foldl (oQ a b) (R ++ [⟨r, v⟩]) = R ++ [⟨r, v + oV a b f⟩]
  | [], R, v => by simp [nS, oV]
  | j :: f, R, v => by
    have e : nS r (j :: f) = ⟨r, j.At, j.Net⟩ :: nS r f := rfl
    rw [e, List.foldl_cons, xN]
    have ej : jE ⟨r, j.At, j.Net⟩ = j := rfl
    by_cases h : inW a b j
    · have e1 : oQ a b (R ++ [⟨r, v⟩]) ⟨r, j.At, j.Net⟩ = R ++ [⟨r, v + j.Net⟩] := by
        unfold oQ xU
        rw [ej, if_pos h, TC, if_pos ⟨by simp, rfl⟩, XH]
      rw [e1, JS a b r f, if_pos h, Int.add_assoc]
    · have e1 : oQ a b (R ++ [⟨r, v⟩]) ⟨r, j.At, j.Net⟩ = R ++ [⟨r, v⟩] := by
        unfold oQ
        rw [ej, if_neg h]
      rw [e1, JS a b r f, if_neg h, Int.zero_add]

theorem EE {rs : List bH} (h : 0 < rs.length) : yH rs ∈ rs := by
  unfold yH
  rw [List.getD_eq_getElem?_getD, List.getElem?_eq_getElem (by omega)]
  exact List.getElem_mem _

theorem MP (a b : Int) (r : List aB) : ∀ (f : List aM) (rs : List bH), (∀ c ∈ rs, c.Row ≠ r) → (nS r f).foldl (oQ a b) rs = rs ++ (if 0 < oV a b f then [⟨r, oV a b f⟩] else [])
  | [], rs, _ => by simp [nS, oV]
  | j :: f, rs, hr => by
    have e : nS r (j :: f) = ⟨r, j.At, j.Net⟩ :: nS r f := rfl
    have ej : jE ⟨r, j.At, j.Net⟩ = j := rfl
    rw [e, List.foldl_cons, xN]
    have hg := (FP a b f).1
    by_cases h : inW a b j
    · have hj : 0 < j.Net := by simp [inW] at h; omega
      have e1 : oQ a b rs ⟨r, j.At, j.Net⟩ = rs ++ [⟨r, j.Net⟩] := by
        unfold oQ xU
        rw [ej, if_pos h, if_neg fun hc => hr _ (EE hc.1) hc.2]
      rw [e1, JS, if_pos h, if_pos (by omega)]
    · have e1 : oQ a b rs ⟨r, j.At, j.Net⟩ = rs := by
        unfold oQ
        rw [ej, if_neg h]
      rw [e1, MP a b r f rs hr, if_neg h, Int.zero_add]

theorem FK (a b : Int) : ∀ {gs : List (List aB × List aM)} {rs : List bH}, DQ gs → (∀ c ∈ rs, ∀ g ∈ gs, c.Row ≠ g.1) → (flat gs).foldl (oQ a b) rs = rs ++ uU a b gs
  | [], rs, _, _ => by simp [flat, uU]
  | g :: gs, rs, hs, hr => by
    obtain ⟨h1, h2⟩ := List.pairwise_cons.1 hs
    rw [KW, List.foldl_append, MP a b g.1 g.2 rs fun c hc => hr c hc g (by simp), FK a b h2 fun c hc q hq => ?_, IY, List.append_assoc]
    rcases List.mem_append.1 hc with hc | hc
    · exact hr c hc q (by simp [hq])
    · split at hc
      · simp at hc; subst hc
        intro e
        have : hU g.1 q.1 < 0 := h1 q hq
        simp only at e
        rw [e] at this
        exact vG this
      · simp at hc

theorem JP {a b : Int} {e : aI} : inW a b (jE e) = true ↔ 0 < e.Net ∧ a ≤ e.At ∧ e.At < b := by
  unfold inW jE
  simp only [Bool.and_eq_true, decide_eq_true_eq]

theorem BO {a b : Int} (ha : 0 ≤ a) : ∀ (l : List aI) (rs : List bH), (l.filter lB).foldl zN ⟨⟨a, b⟩, rs⟩ = ⟨⟨a, b⟩, l.foldl (oQ a b) rs⟩
  | [], rs => rfl
  | e :: l, rs => by
    cases h : lB e with
    | true =>
      have hp : 0 < e.Net ∧ -1 < e.At := by simpa [lB] using h
      simp only [List.filter_cons, h, if_true, List.foldl_cons]
      by_cases hw : e.At < a ∨ b ≤ e.At
      · have e1 : zN ⟨⟨a, b⟩, rs⟩ e = ⟨⟨a, b⟩, rs⟩ := by unfold zN; rw [if_pos hw]
        have e2 : oQ a b rs e = rs := by
          unfold oQ
          have : inW a b (jE e) = false := by
            cases hq : inW a b (jE e) with
            | false => rfl
            | true => have := JP.1 hq; omega
          rw [this]; rfl
        rw [e1, e2, BO ha l rs]
      · have e1 : zN ⟨⟨a, b⟩, rs⟩ e = ⟨⟨a, b⟩, xU rs e⟩ := by unfold zN; rw [if_neg hw]
        have e2 : oQ a b rs e = xU rs e := by
          unfold oQ
          have : inW a b (jE e) = true := JP.2 ⟨hp.1, by omega, by omega⟩
          rw [this]; rfl
        rw [e1, e2, BO ha l (xU rs e)]
    | false =>
      have hp : ¬ (0 < e.Net ∧ -1 < e.At) := by simpa [lB] using h
      have e2 : oQ a b rs e = rs := by
        unfold oQ
        have : inW a b (jE e) = false := by
          cases hq : inW a b (jE e) with
          | false => rfl
          | true => have := JP.1 hq; omega
        rw [this]; rfl
      simp only [List.filter_cons, h, Bool.false_eq_true, if_false, List.foldl_cons, e2]
      exact BO ha l rs

def GS (l : List aI) (run : List Int) : aO := ⟨⟨run.getD 0 0, run.getD (run.length - 1) 0 + 1⟩, uU (run.getD 0 0) (run.getD (run.length - 1) 0 + 1) (groups l)⟩

def JV (rs : List bH) (r : List aI) : Prop := rs.length + r.length ≤ 1000000 ∧ (∀ c ∈ rs, c.Row.length ≤ 17592186044416 ∧ 0 ≤ c.N ∧ c.N + 1048576 * r.length ≤ 4503599627370496) ∧ ∀ e ∈ r, e.Row.length ≤ 4398046510976 ∧ e.Net ≤ 1048576

theorem KY {rs : List bH} {e : aI} {r : List aI} (h : JV rs (e :: r)) : JV rs r := by
  obtain ⟨h1, h2, h3⟩ := h
  simp only [List.length_cons] at h1 h2
  exact ⟨by omega, fun c hc => by have := h2 c hc; omega, fun q hq => h3 q (by simp [hq])⟩

theorem WY {rs : List bH} {e : aI} {r : List aI} (h : JV rs (e :: r)) (hn : 0 < e.Net) : JV (xU rs e) r := by
  obtain ⟨h1, h2, h3⟩ := h
  have he := h3 e (by simp)
  simp only [List.length_cons] at h1 h2
  unfold xU
  split
  · rename_i hc
    have hm := h2 _ (EE hc.1)
    refine ⟨by rw [List.length_set]; omega, fun c hcm => ?_, fun q hq => h3 q (by simp [hq])⟩
    rcases List.mem_or_eq_of_mem_set hcm with hcm | rfl
    · have := h2 c hcm; omega
    · refine ⟨hm.1, ?_⟩; simp only; omega
  · refine ⟨by simp only [List.length_append, List.length_cons, List.length_nil]; omega, fun c hcm => ?_, fun q hq => h3 q (by simp [hq])⟩
    rcases List.mem_append.1 hcm with hcm | hcm
    · have := h2 c hcm; omega
    · simp at hcm; subst hcm; simp only; omega

theorem SS {l : List aI} {t p : aO} {e : aI} {r : List aI} (h : JV p.Rows (e :: r)) (hr : lB e = true) : mW l t p e = some (.inl (t, zN p e)) := by
  obtain ⟨h1, h2, h3⟩ := h
  have he := h3 e (by simp)
  have hn : 0 < e.Net := by simp [lB] at hr; omega
  simp only [List.length_cons] at h1 h2
  unfold mW zN
  by_cases hw : e.At < p.Span.From ∨ p.Span.To ≤ e.At
  · have : (decide (e.At < p.Span.From) || decide (p.Span.To ≤ e.At)) = true := by simpa using hw
    rw [this, cond_true, if_pos hw]
  · have : (decide (e.At < p.Span.From) || decide (p.Span.To ≤ e.At)) = false := by simpa using hw
    rw [this, cond_false, if_neg hw]
    have w1 : IntKind.i64.wrap (((p.Rows.length : Nat) : Int) - 1) = ((p.Rows.length : Nat) : Int) - 1 := dB (by omega) (by omega)
    rw [w1]
    by_cases h0 : 0 < p.Rows.length
    · have c1 : (0 : Int) ≤ ((p.Rows.length : Nat) : Int) - 1 ∧ ((p.Rows.length : Nat) : Int) - 1 < ((p.Rows.length : Nat) : Int) := ⟨by omega, by omega⟩
      have e1 : Int.toNat (((p.Rows.length : Nat) : Int) - 1) = p.Rows.length - 1 := by omega
      have e2 : p.Rows.getD (p.Rows.length - 1) default = yH p.Rows := rfl
      have hm := h2 _ (EE h0)
      rw [aJ (fun _ => c1), decide_eq_true c1.1]
      simp only [cV, cond_true, e1, e2, SF _ e.Row hm.1, Option.bind_some, Bool.true_and]
      by_cases hq : (yH p.Rows).Row = e.Row
      · rw [decide_eq_true hq, cond_true, aJ c1, aJ c1]
        unfold xU
        rw [if_pos ⟨h0, hq⟩, dB (by omega) (by omega)]
      · rw [decide_eq_false hq, cond_false, FW he.1, Option.bind_some, aJ (by simp only [List.length_cons, List.length_nil]; omega)]
        unfold xU
        rw [if_neg fun hc => hq hc.2]
    · have c0 : decide ((0 : Int) ≤ ((p.Rows.length : Nat) : Int) - 1) = false := by rw [decide_eq_false_iff_not]; omega
      rw [aJ (fun hc => by rw [c0] at hc; cases hc), c0]
      simp only [cV, cond_false, Option.bind_some, Bool.false_and]
      rw [FW he.1, Option.bind_some, aJ (by simp only [List.length_cons, List.length_nil]; omega)]
      unfold xU
      rw [if_neg fun hc => h0 hc.1]

theorem HD {l : List aI} (hl : okL l) (hm : lK l = true) {run : List Int} (h0 : 0 < run.length) (h1 : run.length ≤ 1000000) (hr : ∀ x ∈ run, 0 ≤ x ∧ x < 1125899906842624) : pL l run = some (GS l run) := by
  unfold pL nV rB
  have w1 : IntKind.i64.wrap (((run.length : Nat) : Int) - 1) = ((run.length : Nat) : Int) - 1 := dB (by omega) (by omega)
  have e1 : Int.toNat (((run.length : Nat) : Int) - 1) = run.length - 1 := by omega
  have hg : ∀ i, i < run.length → 0 ≤ run.getD i 0 ∧ run.getD i 0 < 1125899906842624 := fun i hi => by
    rw [List.getD_eq_getElem?_getD, List.getElem?_eq_getElem hi]; exact hr _ (List.getElem_mem _)
  have ha := hg 0 h0
  have hb := hg (run.length - 1) (by omega)
  rw [aJ (by omega), w1, aJ (by omega), Option.bind_some, e1, nT, nT, show Int.toNat (0 : Int) = 0 from rfl, dB (by omega) (by omega)]
  have hn := (mJ hm).1
  rw [HG (by omega) (fun (s : aO × aO) e => (s.1, zN s.2 e)) (fun s r => JV s.2.Rows r) (fun s e r hI => ⟨fun hrise => ⟨SS hI hrise, ?_⟩, fun _ => KY hI⟩)
    ⟨by simp; omega, by simp, fun e he => ⟨hl.2 e he, (yP hm he).2.2.2.2.1⟩⟩, Option.bind_some, Sum.elim_inl]
  · have key : ∀ (es : List aI) (s : aO × aO), (es.foldl (fun (s : aO × aO) e => (s.1, zN s.2 e)) s).2 = es.foldl zN s.2 := by
      intro es
      induction es with
      | nil => intro s; rfl
      | cons e es ih => intro s; rw [List.foldl_cons, List.foldl_cons, ih]
    rw [key]
    simp only
    rw [BO ha.1]
    have hfl := uF l
    have hsg := FK (run.getD 0 0) (run.getD (run.length - 1) 0 + 1) (gs := groups l) (rs := []) (mJ hm).2.2 (by simp)
    rw [hfl] at hsg
    rw [hsg, List.nil_append]
    rfl
  · simp only
    unfold zN
    split
    · exact KY hI
    · exact WY hI (by simp [lB] at hrise; omega)

def rE (n : Nat) (mk : List Int → aO) : List Int → List aO
  | [] => []
  | x :: r => (if n ≤ r.length + 1 then [mk ((x :: r).take n)] else []) ++ rE n mk r

theorem xD {n : Nat} {mk : List Int → aO} : ∀ {r : List Int}, r.length < n → rE n mk r = []
  | [], _ => rfl
  | x :: r, h => by
    simp only [List.length_cons] at h
    unfold rE
    rw [if_neg (by omega), xD (by omega)]; rfl

theorem EP {n : Nat} {mk : List Int → aO} (hn : 0 < n) : ∀ r : List Int, (rE n mk r).length = r.length + 1 - n
  | [] => by simp [rE]; omega
  | x :: r => by
    unfold rE
    rw [List.length_append, EP hn r]
    simp only [List.length_cons]
    split
    · simp; omega
    · simp; omega

theorem BA {l : List aI} (hl : okL l) (hm : lK l = true) {n : Int} (h1 : 1 ≤ n) (h2 : n ≤ 64) : ∀ (rest : List Int) (out : List aO), (∀ x ∈ rest, 0 ≤ x ∧ x < 1125899906842624) → out.length + rest.length ≤ 1000000 →
    lp (fun s : List Int × List aO => kU l n s.1 s.2) (rest, out) = some (out ++ rE n.toNat (GS l) rest)
  | [], out, _, _ => by
    refine cQ ?_
    simp only [kU, decide_eq_false (show ¬ n ≤ ((([] : List Int).length : Nat) : Int) by simp; omega), cond_false]
    simp [rE]
  | x :: r, out, hr, ho => by
    simp only [List.length_cons] at ho
    by_cases hc : n ≤ (((x :: r).length : Nat) : Int)
    · have hlen : n.toNat ≤ (x :: r).length := by omega
      have ht : ((x :: r).take n.toNat).length = n.toNat := by rw [List.length_take]; omega
      have hw := HD hl hm (run := (x :: r).take n.toNat) (by omega) (by omega) (fun y hy => hr y (List.mem_of_mem_take hy))
      have hb : kU l n (x :: r) out = some (.inl (r, out ++ [GS l ((x :: r).take n.toNat)])) := by
        simp only [kU, decide_eq_true hc, cond_true]
        rw [aJ ⟨by omega, Int.le_refl _, hc⟩, hw, Option.bind_some, aJ (by simp only [List.length_cons, List.length_nil]; omega), aJ ⟨by omega, by simp only [List.length_cons]; omega⟩]
        rfl
      rw [fB hb, BA hl hm h1 h2 r _ (fun y hy => hr y (by simp [hy])) (by simp only [List.length_append, List.length_cons, List.length_nil]; omega)]
      conv => rhs; unfold rE
      simp only [List.length_cons] at hlen
      rw [if_pos hlen, List.append_assoc]
    · have hlen : (x :: r).length < n.toNat := by omega
      rw [xD hlen]
      refine cQ ?_
      simp only [kU, decide_eq_false hc, cond_false, List.append_nil]

def vZ (l : List aI) (n frm : Int) : List aO × Int :=
  if lV l n ≠ 0 then ([], lV l n) else if frm < 0 ∨ 1125899906842624 < frm then ([], 13) else
  if 1024 < (((cH l).drop (jA (cH l) frm)).length : Int) - n + 1 then ([], 7) else (rE n.toNat (GS l) ((cH l).drop (jA (cH l) frm)), 0)

theorem BD {l : List aI} (hl : okL l) (n frm : Int) : nZ l n frm = some (vZ l n frm) := by
  unfold nZ vZ
  rw [yU hl, Option.bind_some]
  by_cases h : lV l n = 0
  · obtain ⟨hm, ht, n1, n2⟩ := vO h
    obtain ⟨f1, f2, f3, f4⟩ := wA hm
    rw [decide_eq_true h, Bool.not_true, cond_false, if_neg (by simpa using h)]
    by_cases h1 : frm < 0 ∨ 1125899906842624 < frm
    · have : (decide (frm < 0) || decide (1125899906842624 < frm)) = true := by simpa using h1
      rw [this, cond_true, if_pos h1]
    · have : (decide (frm < 0) || decide (1125899906842624 < frm)) = false := by simpa using h1
      rw [this, cond_false, if_neg h1, vT (mJ hm).1 (DL hm), Option.bind_some]
      obtain ⟨⟨b, hb⟩, _, _⟩ := RX f2 (by omega) frm
      have hle := GN (cH l) frm
      rw [hb, Option.bind_some, aJ ⟨by omega, by omega, Int.le_refl _, Int.le_refl _⟩]
      simp only [Int.toNat_natCast, List.take_length]
      have hdl : ((cH l).drop (jA (cH l) frm)).length ≤ 4096 := by rw [List.length_drop]; omega
      have w1 : IntKind.i64.wrap (IntKind.i64.wrap (((((cH l).drop (jA (cH l) frm)).length : Nat) : Int) - n) + 1) = ((((cH l).drop (jA (cH l) frm)).length : Nat) : Int) - n + 1 := by
        rw [dB (n := ((((cH l).drop (jA (cH l) frm)).length : Nat) : Int) - n) (by omega) (by omega), dB (by omega) (by omega)]
      rw [w1]
      by_cases h3 : 1024 < ((((cH l).drop (jA (cH l) frm)).length : Nat) : Int) - n + 1
      · rw [decide_eq_true h3, cond_true, if_pos h3]
      · rw [decide_eq_false h3, cond_false, if_neg h3]
        unfold sO
        rw [BA hl hm n1 n2 _ [] (fun x hx => f4 x (List.mem_of_mem_drop hx)) (by simp only [List.length_nil]; omega)]
        rfl
  · rw [decide_eq_false h, Bool.not_false, cond_true, if_pos h]

end Go.Abs
namespace Go.Abs
open Go
theorem TX {l : List aI} {all : List Int} {rows : List (List aB)} {n frm i k : Nat → Int} {nn ff ii kk : Int} {f : List aM} {a b : Int} (hf : f.length ≤ 1000000) (hnet : ∀ j ∈ f, j.Net ≤ 1048576)
    (hi : 0 ≤ ii ∧ ii < ((all.length : Nat) : Int)) (ha : all.getD (Int.toNat ii) default = a) (hj : 0 ≤ IntKind.i64.wrap (IntKind.i64.wrap (ii + nn) - 1) ∧ IntKind.i64.wrap (IntKind.i64.wrap (ii + nn) - 1) < ((all.length : Nat) : Int))
    (hb : all.getD (Int.toNat (IntKind.i64.wrap (IntKind.i64.wrap (ii + nn) - 1))) default + 1 = b) (out : List aO) (p : aO) (r : List aB) :
    lp (fun s : List aO × aO × bH × Int => lQ l nn ff all rows ii kk f s.1 s.2.1 s.2.2.1 s.2.2.2) (out, p, ⟨r, 0⟩, 0) = some (out, p, ⟨r, oV a b f⟩) := by
  have := qS (l := f) (body := fun s : List aO × aO × bH × Int => lQ l nn ff all rows ii kk f s.1 s.2.1 s.2.2.1 s.2.2.2) (fun (s : bH) i => (out, p, s, i)) (fun s g => (out, p, (⟨s.Row, s.N + oV a b g⟩ : bH)))
    (fun s g => 0 ≤ s.N ∧ s.N + 1048576 * g.length ≤ 4503599627370496 ∧ ∀ j ∈ g, j.Net ≤ 1048576) ⟨r, 0⟩ ?_ ?_ ⟨by simp, by simp only; omega, hnet⟩
  · rw [this]; simp
  · rintro m j g s hm ⟨s0, s1, s2⟩
    left
    simp only [List.length_cons] at s1
    obtain ⟨d1, d2, d3, d4⟩ := idx hm (by omega)
    have hj1 := s2 j (by simp)
    have hin : ((decide (0 < j.Net) && decide (a ≤ j.At)) && decide (j.At ≤ all.getD (Int.toNat (IntKind.i64.wrap (IntKind.i64.wrap (ii + nn) - 1))) default)) = inW a b j := by
      unfold inW
      rw [Bool.and_assoc]
      congr 2
      rw [decide_eq_decide]; omega
    have hbody : ∀ c : bH, lQ l nn ff all rows ii kk f out p c ((m : Nat) : Int) = cond (inW a b j) (some (.inl (out, p, ⟨c.Row, IntKind.i64.wrap (c.N + j.Net)⟩, ((m + 1 : Nat) : Int)))) (some (.inl (out, p, c, ((m + 1 : Nat) : Int)))) := by
      intro c
      simp only [lQ, qI, d1, cond_true, aJ d2, d3, d4, ha]
      rw [aJ (fun _ => d2), aJ (fun _ => hi), aJ (fun _ => d2), aJ (fun _ => hj), hin]
    cases hw : inW a b j with
    | true =>
      have hp : 0 < j.Net := by simp [inW] at hw; omega
      refine ⟨⟨s.Row, s.N + j.Net⟩, ?_, ⟨by simp only; omega, by simp only; omega, fun q hq => s2 q (by simp [hq])⟩, by rw [xN, hw, if_pos rfl]; simp only [Int.add_assoc]⟩
      simp only
      rw [hbody, hw, cond_true, dB (by omega) (by omega)]
    | false =>
      refine ⟨s, ?_, ⟨s0, by omega, fun q hq => s2 q (by simp [hq])⟩, by rw [xN, hw]; simp⟩
      simp only
      rw [hbody, hw, cond_false]
  · rintro s _
    simp only [lQ, iC, cond_false]
    simp [oV]

theorem PO {l : List aI} (hl : okL l) (hm : lK l = true) {all : List Int} {rows : List (List aB)} (hrl : rows.length ≤ 4096) {nn ff ii : Int} {a b : Int}
    (hi : 0 ≤ ii ∧ ii < ((all.length : Nat) : Int)) (ha : all.getD (Int.toNat ii) default = a) (hj : 0 ≤ IntKind.i64.wrap (IntKind.i64.wrap (ii + nn) - 1) ∧ IntKind.i64.wrap (IntKind.i64.wrap (ii + nn) - 1) < ((all.length : Nat) : Int))
    (hb : all.getD (Int.toNat (IntKind.i64.wrap (IntKind.i64.wrap (ii + nn) - 1))) default + 1 = b) (out : List aO) (sp : cE) :
    lp (fun s : List aO × aO × Int => lU l nn ff all rows ii s.1 s.2.1 s.2.2) (out, ⟨sp, []⟩, 0) = some (out, ⟨sp, uU a b (rows.map fun r => (r, dR l r))⟩) := by
  have := qS (l := rows) (body := fun s : List aO × aO × Int => lU l nn ff all rows ii s.1 s.2.1 s.2.2) (fun (s : List bH) i => (out, ⟨sp, s⟩, i)) (fun s g => (out, (⟨sp, s ++ uU a b (g.map fun r => (r, dR l r))⟩ : aO)))
    (fun s g => s.length + g.length ≤ 1000000) [] ?_ ?_ (by simp only [List.length_nil]; omega)
  · rw [this]; simp
  · intro m r g s hmr hs
    left
    simp only [List.length_cons] at hs
    obtain ⟨d1, d2, d3, d4⟩ := idx hmr (by omega)
    have hmb := wH hm r
    have hfl : (dR l r).length ≤ 1024 := (qC.1 hmb).1
    have hnet : ∀ j ∈ dR l r, j.Net ≤ 1048576 := fun j hj => (GJ hmb j hj).1
    have hbody : lU l nn ff all rows ii out ⟨sp, s⟩ ((m : Nat) : Int) = some (.inl (out, ⟨sp, s ++ (if 0 < oV a b (dR l r) then [⟨r, oV a b (dR l r)⟩] else [])⟩, ((m + 1 : Nat) : Int))) := by
      simp only [lU, d1, cond_true, aJ d2, d3, AN hl (show l.length ≤ 1099511627776 by have := (mJ hm).1; omega), Option.bind_some, tP]
      rw [TX (n := fun _ => 0) (frm := fun _ => 0) (i := fun _ => 0) (k := fun _ => 0) (by omega) hnet hi ha hj hb, Option.bind_some]
      simp only [qK, qO, d4]
      by_cases hg : 0 < oV a b (dR l r)
      · rw [decide_eq_true hg, cond_true, aJ (by simp only [List.length_cons, List.length_nil]; omega), if_pos hg]
      · rw [decide_eq_false hg, cond_false, if_neg hg, List.append_nil]
    refine ⟨_, hbody, by simp only [List.length_append]; split <;> simp <;> omega, ?_⟩
    simp only [List.map_cons]
    rw [IY, List.append_assoc]
  · intro s _
    simp only [lU, iC, cond_false]
    simp [uU]

end Go.Abs
