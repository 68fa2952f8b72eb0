/- What the law PackTicks stands on: the framework, the given functions as plain functions, their walks, and the plain laws; part 5. -/
import Derived.Test.YtfepdngmgjmniaaPackTicksZ4
set_option linter.unusedSimpArgs false
set_option linter.unusedVariables false
namespace Go.Abs
open Go
theorem lI {last : Int} {j : aB} : tF last j = false ↔ last < j.At ∧ j.At < 1125899906842624 ∧ j.Net ≠ 0 ∧ j.Net ≤ 1048576 ∧ -1048576 ≤ j.Net := by
  simp [tF, zV]
  omega

def tE (last : Int) : List aB → Prop
  | [] => True
  | j :: r => (last < j.At ∧ j.At < 1125899906842624 ∧ j.Net ≠ 0 ∧ j.Net ≤ 1048576 ∧ -1048576 ≤ j.Net) ∧ tE j.At r

theorem UZ : ∀ {f : List aB} {last : Int}, chk last f = true ↔ tE last f
  | [], last => by simp [chk, tE]
  | j :: r, last => by simp [chk, tE, lI, UZ]

theorem lV {f : List aB} : fN f = true ↔ f.length ≤ 1024 ∧ tE (-2) f := by simp [fN, UZ]

theorem tE.above : ∀ {f : List aB} {last : Int}, tE last f → ∀ j ∈ f, last < j.At ∧ j.At < 1125899906842624 ∧ j.Net ≠ 0 ∧ j.Net ≤ 1048576 ∧ -1048576 ≤ j.Net
  | [], _, _, j, hj => by simp at hj
  | a :: r, last, h, j, hj => by
    rcases List.mem_cons.1 hj with rfl | hj
    · exact h.1
    · have := h.2.above j hj
      have h1 := h.1.1
      exact ⟨by omega, this.2⟩

def val (f : List aB) (t : Int) : Int := (f.map fun j => if j.At ≤ t then j.Net else 0).sum

theorem oV (t : Int) : val [] t = 0 := rfl

theorem cD (j : aB) (r : List aB) (t : Int) : val (j :: r) t = (if j.At ≤ t then j.Net else 0) + val r t := by simp [val]

theorem xI (f g : List aB) (t : Int) : val (f ++ g) t = val f t + val g t := by simp [val]

theorem wY {f : List aB} {t : Int} (h : ∀ j ∈ f, t < j.At) : val f t = 0 := by
  induction f with
  | nil => rfl
  | cons j r ih =>
    rw [cD, ih (fun k hk => h k (List.mem_cons_of_mem _ hk))]
    have := h j (List.mem_cons_self ..)
    rw [if_neg (by omega)]; rfl

theorem aA9 (f : List aB) : sX f = some (if fN f then (f, 0) else ([], 7)) := by
  unfold sX
  rw [JZ]
  cases h : fN f <;> simp

end Go.Abs
namespace Go.Abs
open Go
section both
variable {op : Int → Int → Option Int} {f g r : List aB} {out : List aB} {a b was t : Int} {j : aB}
end both
def emit (p v was : Int) : List aB := if v = was then [] else [⟨p, v - was⟩]

def yW (was : Int) : List (Int × Int) → List aB
  | [] => []
  | x :: r => emit x.1 x.2 was ++ yW x.2 r

def merge (f g : List aB) (a b : Int) : List (Int × Int × Int) :=
  match f, g with
  | [], [] => []
  | j :: f, [] => (j.At, a + j.Net, b) :: merge f [] (a + j.Net) b
  | [], k :: g => (k.At, a, b + k.Net) :: merge [] g a (b + k.Net)
  | j :: f, k :: g =>
    if j.At < k.At then (j.At, a + j.Net, b) :: merge f (k :: g) (a + j.Net) b
    else if k.At < j.At then (k.At, a, b + k.Net) :: merge (j :: f) g a (b + k.Net)
    else (j.At, a + j.Net, b + k.Net) :: merge f g (a + j.Net) (b + k.Net)

termination_by f.length + g.length
end Go.Abs
namespace Go.Abs
open Go
def comb (OP : Int → Int → Int) (f g : List aB) : List aB := yW 0 ((merge f g 0 0).map fun x => (x.1, OP x.2.1 x.2.2))

def told (f : List aB) : List aB × Int := if fN f then (f, 0) else ([], 7)

theorem ZV (f : List aB) : sX f = some (told f) := aA9 f

def two (OP : Int → Int → Int) (f g : List aB) : List aB × Int := if fN f && fN g then told (comb OP f g) else ([], 2)

end Go.Abs
namespace Go.Abs
open Go
theorem aAz (p v was t : Int) : val (emit p v was) t = if p ≤ t then v - was else 0 := by
  unfold emit
  by_cases h : v = was
  · rw [if_pos h, oV, h]; split <;> omega
  · rw [if_neg h, cD, oV]; simp

theorem tE.tU {l t : Int} {f : List aB} (h : tE l f) (ht : t ≤ l) : val f t = 0 := wY fun j hj => by have := (h.above j hj).1; omega

end Go.Abs
namespace Go.Abs
open Go
def vS (f : List aB) : Nat → Int
  | 0 => -2
  | k + 1 => (f.getD k default).At

theorem TS {f : List aB} {i : Nat} {a : aB} {last : Int} (ha : f[i]? = some a) (hl : f.length ≤ 1024) (hlast : last = vS f i) (hp : -2 ≤ last) (hp' : 0 < i → -1 ≤ last) :
    lB f i = some (if tF last a then .inr (.inr false) else .inl ((i + 1 : Nat) : Int)) := by
  obtain ⟨d1, d2, d3, d4⟩ := idx ha (by omega)
  have hlt : i < f.length := (List.getElem?_eq_some_iff.1 ha).1
  simp only [lB, d1, cond_true, d3, d4]
  rw [bD d2, bD (fun _ => d2), bD (fun _ => d2), bD (fun _ => d2), bD (fun _ => d2), bD (fun _ => d2)]
  cases i with
  | zero =>
    rw [bD (fun h => by simp at h)]
    have hm2 : last = -2 := hlast
    subst hm2
    by_cases hb : tF (-2) a = true
    · rw [if_pos hb]
      have hx : (((((decide (a.At < -1)) || (decide (1125899906842624 ≤ a.At))) || (decide (a.Net = 0))) || (decide (1048576 < a.Net))) || (decide (a.Net < -1048576))) = true := by
        simp [tF, zV] at hb ⊢; omega
      rw [hx, cond_true]
    · have hb' : tF (-2) a = false := by simpa using hb
      rw [if_neg hb]
      rw [lI] at hb'
      have hx : (((((decide (a.At < -1)) || (decide (1125899906842624 ≤ a.At))) || (decide (a.Net = 0))) || (decide (1048576 < a.Net))) || (decide (a.Net < -1048576))) = false := by
        simp; omega
      rw [hx, cond_false]
      simp
  | succ k =>
    have hw : IntKind.i64.wrap (((k + 1 : Nat) : Int) - 1) = (k : Int) := by rw [fT (by omega) (by omega)]; omega
    have hg : List.getD f (Int.toNat (k : Int)) default = f.getD k default := by rw [Int.toNat_natCast]
    rw [hw, hg, bD (fun _ => ⟨by omega, by omega⟩)]
    have hpos : decide ((0 : Int) < ((k + 1 : Nat) : Int)) = true := by simp
    have hp1 := hp' (by omega)
    have hl2 : (f.getD k default).At = last := hlast.symm
    rw [hpos, Bool.true_and, hl2]
    by_cases hb : tF last a = true
    · rw [if_pos hb]
      by_cases hx : (((((decide (a.At < -1)) || (decide (1125899906842624 ≤ a.At))) || (decide (a.Net = 0))) || (decide (1048576 < a.Net))) || (decide (a.Net < -1048576))) = true
      · rw [hx, cond_true]
      · have hx' : (((((decide (a.At < -1)) || (decide (1125899906842624 ≤ a.At))) || (decide (a.Net = 0))) || (decide (1048576 < a.Net))) || (decide (a.Net < -1048576))) = false := by simpa using hx
        have hy : decide (a.At ≤ last) = true := by
          simp [tF, zV] at hb hx' ⊢; omega
        rw [hx', cond_false, hy, cond_true]
    · have hb' : tF last a = false := by simpa using hb
      rw [if_neg hb]
      rw [lI] at hb'
      have hx : (((((decide (a.At < -1)) || (decide (1125899906842624 ≤ a.At))) || (decide (a.Net = 0))) || (decide (1048576 < a.Net))) || (decide (a.Net < -1048576))) = false := by
        simp; omega
      have hy : decide (a.At ≤ last) = false := by simp; omega
      rw [hx, cond_false, hy, cond_false]

theorem MZ {f : List aB} (hl : f.length ≤ 1024) : ∀ (m k : Nat), f.length - k = m → k ≤ f.length → -2 ≤ vS f k → (0 < k → -1 ≤ vS f k) → lp (fun s => lB f s) (k : Int) = some (if chk (vS f k) (f.drop k) = true then .inl () else .inr false)
  | 0, k, hm, hk, _, _ => by
    have : k = f.length := by omega
    subst this
    rw [List.drop_length]
    refine cO ?_
    show lB f _ = _
    simp [lB, chk]
  | m + 1, k, hm, hk, hp, hp' => by
    have h1 : k < f.length := by omega
    have hb := TS (List.getElem?_eq_getElem h1) hl rfl hp hp'
    have e1 : f.drop k = f[k] :: f.drop (k + 1) := List.drop_eq_getElem_cons h1
    have hpa : vS f (k + 1) = f[k].At := by simp [vS, List.getD_eq_getElem?_getD, h1]
    rw [e1]
    by_cases h : tF (vS f k) f[k] = true
    · rw [if_pos h] at hb
      rw [cO (show (fun s => lB f s) (k : Int) = _ from hb)]
      simp [chk, h]
    · rw [if_neg h] at hb
      have h' : tF (vS f k) f[k] = false := by simpa using h
      have := lI.1 h'
      rw [eG (show (fun s => lB f s) (k : Int) = _ from hb), MZ hl m (k + 1) (by omega) (by omega) (by rw [hpa]; omega) (fun _ => by rw [hpa]; omega), hpa]
      simp [chk, h']

theorem XW (f : List aB) : vW f = some (fN f) := by
  unfold vW fN
  by_cases hl : f.length ≤ 1024
  · have h1 : decide ((1024 : Int) < ((f.length : Nat) : Int)) = false := by simp; omega
    rw [h1, cond_false]
    unfold xM
    have := MZ hl f.length 0 rfl (Nat.zero_le _) (by simp [vS]) (by omega)
    simp only [Int.natCast_zero, List.drop_zero, vS] at this
    rw [this]
    cases h : chk (-2) f <;> simp [uA, hl]
  · have h1 : decide ((1024 : Int) < ((f.length : Nat) : Int)) = true := by simp; omega
    rw [h1, cond_true]
    simp [hl]

end Go.Abs
namespace Go.Abs
open Go
def VF (f : List aB) : Int := (f.map aB.Net).sum

def LZ (t : Int) : List aB → List aB
  | [] => []
  | j :: r => if t ≤ j.At then [] else j :: LZ t r

def aft (t : Int) : List aB → List aB
  | [] => []
  | j :: r => if t ≤ j.At then j :: r else aft t r

def aBG (t : Int) (f : List aB) : List aB := LZ t f ++ (if VF (LZ t f) = 0 then [] else [⟨t, -VF (LZ t f)⟩])

def ahead (f : List aB) (t : Int) : List aB × Int :=
  if fN f then (if 1125899906842624 ≤ t then (f, 0) else told (aBG t f)) else ([], 2)

end Go.Abs
namespace Go.Abs
open Go
def aB7 (t : Int) (f : List aB) : List aB := (if VF (LZ t f) = 0 then [] else [⟨-1, VF (LZ t f)⟩]) ++ aft t f

def rest (f : List aB) (t : Int) : List aB × Int :=
  if fN f then (if 1125899906842624 ≤ t then ([], 0) else if t ≤ -1 then (f, 0) else told (aB7 t f)) else ([], 2)

end Go.Abs
namespace Go.Abs
open Go
def Up (last : Int) : List aB → Prop
  | [] => True
  | j :: r => (last < j.At ∧ j.At < 1125899906842624 ∧ j.Net ≠ 0) ∧ Up j.At r

theorem Up.above : ∀ {f : List aB} {last : Int}, Up last f → ∀ j ∈ f, last < j.At ∧ j.At < 1125899906842624 ∧ j.Net ≠ 0
  | [], _, _, j, hj => by simp at hj
  | a :: r, last, h, j, hj => by
    rcases List.mem_cons.1 hj with rfl | hj
    · exact h.1
    · have := h.2.above j hj
      have h1 := h.1.1
      exact ⟨by omega, this.2⟩

theorem Up.tU {l t : Int} {f : List aB} (h : Up l f) (ht : t ≤ l) : val f t = 0 := wY fun j hj => by have := (h.above j hj).1; omega

theorem Up.weaken {a b : Int} {f : List aB} (h : Up b f) (hab : a ≤ b) : Up a f := by
  cases f with
  | nil => trivial
  | cons j r => exact ⟨⟨by have := h.1.1; omega, h.1.2⟩, h.2⟩

theorem tE.up : ∀ {f : List aB} {last : Int}, tE last f → Up last f
  | [], _, _ => trivial
  | _ :: _, _, h => ⟨⟨h.1.1, h.1.2.1, h.1.2.2.1⟩, h.2.up⟩

theorem Up.ext : ∀ {f g : List aB} {last : Int}, Up last f → Up last g → (∀ t, last < t → t < 1125899906842624 → val f t = val g t) → f = g
  | [], [], _, _, _, _ => rfl
  | j :: r, [], last, hf, _, h => by
    have := h j.At hf.1.1 hf.1.2.1
    rw [cD, if_pos (Int.le_refl _), hf.2.tU (Int.le_refl _), oV] at this
    exact absurd (by omega) hf.1.2.2
  | [], k :: s, last, _, hg, h => by
    have := h k.At hg.1.1 hg.1.2.1
    rw [cD, if_pos (Int.le_refl _), hg.2.tU (Int.le_refl _), oV] at this
    exact absurd (by omega) hg.1.2.2
  | j :: r, k :: s, last, hf, hg, h => by
    have h1 := h j.At hf.1.1 hf.1.2.1
    have h2 := h k.At hg.1.1 hg.1.2.1
    rw [cD, if_pos (Int.le_refl _), hf.2.tU (Int.le_refl _), cD] at h1
    rw [cD, cD k, if_pos (Int.le_refl _), hg.2.tU (Int.le_refl _)] at h2
    have n1 := hf.1.2.2
    have n2 := hg.1.2.2
    have he : j.At = k.At := by
      rcases Int.lt_trichotomy j.At k.At with h3 | h3 | h3
      · rw [if_neg (by omega), hg.2.tU (by omega)] at h1; omega
      · exact h3
      · rw [if_neg (by omega), hf.2.tU (by omega)] at h2; omega
    rw [if_pos (by omega), hg.2.tU (by omega)] at h1
    have hj : j = k := by
      obtain ⟨a, b⟩ := j; obtain ⟨c, d⟩ := k
      simp only at he h1
      simp only [Int.add_zero] at h1
      rw [he, h1]
    subst hj
    rw [hf.2.ext hg.2 (fun t ht ht' => by
      have := h t (by have := hf.1.1; omega) ht'
      rw [cD, cD] at this; omega)]

def Inc (last : Int) : List Int → Prop
  | [] => True
  | p :: r => (last < p ∧ p < 1125899906842624) ∧ Inc p r

theorem Inc.above : ∀ {ps : List Int} {last : Int}, Inc last ps → ∀ p ∈ ps, last < p ∧ p < 1125899906842624
  | [], _, _, j, hj => by simp at hj
  | a :: r, last, h, j, hj => by
    rcases List.mem_cons.1 hj with rfl | hj
    · exact h.1
    · have := h.2.above j hj
      have h1 := h.1.1
      exact ⟨by omega, this.2⟩

theorem EY : ∀ {l : List (Int × Int)} {last was : Int}, Inc last (l.map Prod.fst) → Up last (yW was l)
  | [], _, _, _ => trivial
  | x :: r, last, was, h => by
    simp only [yW]
    have ih : Up x.1 (yW x.2 r) := EY h.2
    have h1 : last < x.1 ∧ x.1 < 1125899906842624 := h.1
    unfold emit
    split
    · exact ih.weaken (by omega)
    · exact ⟨⟨h1.1, h1.2, by simp only; omega⟩, ih⟩

theorem FU {F : Int → Int} : ∀ {ps : List Int} {last : Int}, Inc last ps → (∀ s t, last ≤ s → s ≤ t → t < 1125899906842624 → (∀ p ∈ ps, ¬ (s < p ∧ p ≤ t)) → F s = F t) →
    ∀ t, last ≤ t → t < 1125899906842624 → val (yW (F last) (ps.map fun p => (p, F p))) t = F t - F last
  | [], last, _, hF, t, h1, h2 => by
    have := hF last t (Int.le_refl _) h1 h2 (by simp)
    simp [yW, val, this]
  | p :: r, last, hi, hF, t, h1, h2 => by
    simp only [List.map_cons, yW]
    rw [xI, aAz]
    by_cases hp : p ≤ t
    · rw [if_pos hp, FU (F := F) hi.2 (fun s t' hs hst ht' hn => hF s t' (by have := hi.1.1; omega) hst ht' (fun q hq => by
        rcases List.mem_cons.1 hq with rfl | hq
        · omega
        · exact hn q hq)) t hp h2]
      omega
    · have := hF last t (Int.le_refl _) h1 h2 (fun q hq => by
        rcases List.mem_cons.1 hq with rfl | hq
        · omega
        · have := (hi.2.above q hq).1; omega)
      rw [if_neg hp, Up.tU (EY (last := p) (by rw [List.map_map]; simpa [Function.comp_def] using hi.2)) (by omega)]
      omega

theorem aBD {f : List aB} (h : fN f = true) : Up (-2) f := (lV.1 h).2.up

theorem aAg {F : Int → Int} (h2 : F (-2) = 0) {ps : List Int} (hi : Inc (-2) ps) (hF : ∀ s t, -2 ≤ s → s ≤ t → t < 1125899906842624 → (∀ p ∈ ps, ¬ (s < p ∧ p ≤ t)) → F s = F t) {h : List aB} (hh : Up (-2) h) (hv : ∀ t, -2 < t → t < 1125899906842624 → val h t = F t) :
    yW 0 (ps.map fun p => (p, F p)) = h := by
  refine (EY (by rw [List.map_map]; simpa [Function.comp_def] using hi)).ext hh fun t h3 h4 => ?_
  have := FU hi hF t (by omega) h4
  rw [h2] at this
  rw [this, hv t h3 h4]; omega

end Go.Abs
namespace Go.Abs
open Go
theorem TI {f : List aB} (t : Int) (hb : ∀ j ∈ f, j.Net ≤ 1048576 ∧ -1048576 ≤ j.Net) (hl : f.length ≤ 1099511627776) : pV f t = some (val f t) := by
  unfold pV vA
  rw [uU (l := f) (body := fun s : Int × Int => iT f t s.1 s.2) (fun v i => (v, i)) (fun v r => v + val r t)
    (fun v r => (∀ j ∈ r, j.Net ≤ 1048576 ∧ -1048576 ≤ j.Net) ∧ r.length ≤ 1099511627776 ∧ v ≤ 1048576 * (1099511627776 - r.length) ∧ -(1048576 * (1099511627776 - r.length)) ≤ v) 0 ?_ ?_ ?_]
  · simp [qQ]
  · intro i a r v ha ⟨h1, h2, h3, h4⟩
    obtain ⟨d1, d2, d3, d4⟩ := idx ha (by omega)
    have hj := h1 a (List.mem_cons_self ..)
    simp only [List.length_cons] at h2 h3 h4
    left
    by_cases h : a.At ≤ t
    · refine ⟨v + a.Net, ?_, ⟨fun j hj => h1 j (List.mem_cons_of_mem _ hj), by omega, by omega, by omega⟩, ?_⟩
      · show iT f t v i = _
        have hw : IntKind.i64.wrap (v + a.Net) = v + a.Net := fT (by omega) (by omega)
        simp only [iT, oT, d1, cond_true, bD d2, d3, d4, h, decide_true, hw]
      · show v + a.Net + val r t = v + val (a :: r) t
        rw [cD, if_pos h]; omega
    · refine ⟨v, ?_, ⟨fun j hj => h1 j (List.mem_cons_of_mem _ hj), by omega, by omega, by omega⟩, ?_⟩
      · show iT f t v i = _
        simp only [iT, oT, d1, cond_true, bD d2, d3, d4, h, decide_false, cond_false]
      · show v + val r t = v + val (a :: r) t
        rw [cD, if_neg h]; omega
  · intro s _
    show iT f t s (f.length : Nat) = _
    simp only [iT, jB, cond_false]
    simp [val]
  · exact ⟨hb, hl, by omega, by omega⟩

theorem AV {f : List aB} (h : fN f = true) : ∀ j ∈ f, j.Net ≤ 1048576 ∧ -1048576 ≤ j.Net := fun j hj => by have := (lV.1 h).2.above j hj; omega

theorem QM {f : List aB} (h : fN f = true) (t : Int) : pV f t = some (val f t) :=
  TI t (AV h) (by have := (lV.1 h).1; omega)

theorem aAv (f : List aB) (t : Int) : yD f t = some (if fN f then val f t else 0) := by
  unfold yD
  rw [XW]
  cases h : fN f
  · simp
  · simp [QM h]

def CB (t : Int) : List Int → List Int
  | [] => [t]
  | p :: r => if p = t then p :: r else if t < p then t :: p :: r else p :: CB t r

theorem NQ {t x : Int} : ∀ {ps : List Int}, x ∈ CB t ps ↔ x = t ∨ x ∈ ps
  | [] => by simp [CB]
  | p :: r => by
    unfold CB
    split
    · rename_i h; subst h; simp
    · split
      · simp
      · simp only [List.mem_cons, NQ (ps := r)]; constructor <;> (intro h; rcases h with h | h | h <;> simp [h])

theorem NR {t : Int} : ∀ {ps : List Int} {last : Int}, Inc last ps → last < t → t < 1125899906842624 → Inc last (CB t ps)
  | [], last, _, h1, h2 => ⟨⟨h1, h2⟩, trivial⟩
  | p :: r, last, h, h1, h2 => by
    unfold CB
    split
    · exact h
    · split
      · rename_i h3 h4
        exact ⟨⟨h1, h2⟩, ⟨h4, h.1.2⟩, h.2⟩
      · exact ⟨h.1, NR h.2 (by omega) h2⟩

def MM (ps : List Int) (f : List aB) : List Int := f.foldl (fun ps j => CB j.At ps) ps

theorem IV {x : Int} : ∀ {f : List aB} {ps : List Int}, x ∈ MM ps f ↔ x ∈ ps ∨ ∃ j ∈ f, j.At = x
  | [], ps => by simp [MM]
  | k :: r, ps => by
    have := IV (x := x) (f := r) (ps := CB k.At ps)
    unfold MM at this ⊢
    rw [List.foldl_cons, this, NQ]
    constructor
    · rintro ((h | h) | ⟨j, h, h'⟩)
      · exact Or.inr ⟨k, List.mem_cons_self .., h.symm⟩
      · exact Or.inl h
      · exact Or.inr ⟨j, List.mem_cons_of_mem _ h, h'⟩
    · rintro (h | ⟨j, h, h'⟩)
      · exact Or.inl (Or.inr h)
      · rcases List.mem_cons.1 h with rfl | h
        · exact Or.inl (Or.inl h'.symm)
        · exact Or.inr ⟨j, h, h'⟩

theorem PJ : ∀ {f : List aB} {ps : List Int} {last : Int}, Inc last ps → (∀ j ∈ f, last < j.At ∧ j.At < 1125899906842624) → Inc last (MM ps f)
  | [], _, _, h, _ => h
  | k :: r, ps, last, h, hf => by
    have hk := hf k (List.mem_cons_self ..)
    exact PJ (f := r) (NR h hk.1 hk.2) fun j hj => hf j (List.mem_cons_of_mem _ hj)

end Go.Abs
namespace Go.Abs
open Go
def mn (a b : Int) : Int := if b < a then b else a

def parts (v : Int) : List aB → List Int
  | [] => []
  | j :: r => (v + j.Net) :: parts (v + j.Net) r

def DC (f : List aB) : Int := (f.map fun j => val f j.At).foldl mn (val f (-1))

theorem parts_eq : ∀ {f : List aB} {l v : Int}, tE l f → parts v f = f.map fun j => v + val f j.At
  | [], _, _, _ => rfl
  | j :: r, l, v, h => by
    simp only [parts, List.map_cons]
    rw [parts_eq h.2, cD, if_pos (Int.le_refl _), h.2.tU (Int.le_refl _), Int.add_zero]
    congr 1
    apply List.map_congr_left
    intro k hk
    have := (h.2.above k hk).1
    rw [cD, if_pos (by omega)]; omega

theorem XD {j : aB} {r : List aB} (h : tE (-2) (j :: r)) : val (j :: r) (-1) = if j.At = -1 then j.Net else 0 := by
  have := h.1.1
  by_cases e : j.At = -1
  · rw [if_pos e, cD, if_pos (by omega), h.2.tU (by omega)]; omega
  · rw [if_neg e, wY]
    intro k hk
    rcases List.mem_cons.1 hk with rfl | hk
    · omega
    · have := (h.2.above k hk).1; omega

theorem KG {f : List aB} (hf : fN f = true) (m : Int) (hm : -1125899906842624 ≤ m ∧ m ≤ 1125899906842624) : sR 0 m f (f.length : Nat) 0 = some ((f.map fun j => val f j.At).foldl mn m) := by
  obtain ⟨hl, hr⟩ := lV.1 hf
  unfold sR
  rw [uU (l := f) (body := fun s : Int × Int × Int => mL f (f.length : Nat) s.1 s.2.1 s.2.2) (fun (s : Int × Int) i => (s.1, s.2, i)) (fun s r => (parts s.1 r).foldl mn s.2)
    (fun s r => (∀ j ∈ r, j.Net ≤ 1048576 ∧ -1048576 ≤ j.Net) ∧ r.length ≤ 1024 ∧ s.1 ≤ 1048576 * (1024 - r.length) ∧ -(1048576 * (1024 - r.length)) ≤ s.1) (0, m) ?_ ?_ ?_]
  · simp only [Option.bind_some, rY, parts_eq hr, Int.zero_add]
  · rintro i a r ⟨v, m⟩ ha ⟨h1, h2, h3, h4⟩
    obtain ⟨d1, d2, d3, d4⟩ := idx ha (by omega)
    have hj := h1 a (List.mem_cons_self ..)
    simp only [List.length_cons] at h2 h3 h4
    have hw : IntKind.i64.wrap (v + a.Net) = v + a.Net := fT (by omega) (by omega)
    left
    refine ⟨(v + a.Net, mn m (v + a.Net)), ?_, ⟨fun j hj => h1 j (List.mem_cons_of_mem _ hj), by omega, by simp only; omega, by simp only; omega⟩, rfl⟩
    show mL f (f.length : Nat) v m i = _
    simp only [mL, d1, cond_true, bD d2, d3, d4, hw, mn]
  · rintro ⟨v, m⟩ _
    show mL f (f.length : Nat) v m (f.length : Nat) = _
    simp only [mL, jB, cond_false, parts, List.foldl_nil]
  · exact ⟨AV hf, hl, by simp only; omega, by simp only; omega⟩

theorem ZR (f : List aB) : tV f = some (if fN f then DC f else 0) := by
  unfold tV
  rw [JZ]
  cases h : fN f
  · simp
  · cases f with
    | nil => simp [DC, val]
    | cons j r =>
      obtain ⟨hl, hr⟩ := lV.1 h
      have hne : decide (((List.length (j :: r) : Nat) : Int) = 0) = false := by simp; omega
      simp only [Option.bind_some, Bool.not_true, Bool.false_or, hne, cond_false, bD aCl, aBP, if_true]
      have hj := hr.1
      unfold DC
      rw [XD hr]
      by_cases e : j.At = -1
      · simp only [e, decide_true, cond_true, if_true, pT]
        exact KG h j.Net (by omega)
      · simp only [e, decide_false, cond_false, if_false, pT]
        exact KG h 0 (by omega)

theorem BO {s t : Int} (hst : s ≤ t) : ∀ {f : List aB}, (∀ j ∈ f, ¬ (s < j.At ∧ j.At ≤ t)) → val f s = val f t
  | [], _ => rfl
  | j :: r, h => by
    have hj := h j (List.mem_cons_self ..)
    rw [cD, cD, BO hst (fun k hk => h k (List.mem_cons_of_mem _ hk))]
    by_cases e : j.At ≤ s
    · rw [if_pos e, if_pos (by omega)]
    · rw [if_neg e, if_neg (by omega)]

theorem WB {f : List aB} (h : fN f = true) : ∀ j ∈ f, -2 < j.At ∧ j.At < 1125899906842624 := fun j hj => by have := (lV.1 h).2.above j hj; omega

theorem aBl : fN [] = true := by decide

end Go.Abs
namespace Go.Abs
open Go
theorem w1 : IntKind.i64.wrap (0 + 1) = 1 := by rw [fT] <;> omega

theorem w2 : IntKind.i64.wrap (1 + 1) = 2 := by rw [fT] <;> omega

theorem w3 : IntKind.i64.wrap (1 - 1) = 0 := by rw [fT] <;> omega

theorem v0 : IntKind.i64.wrap 0 = 0 := by rw [fT] <;> omega

theorem v1 : IntKind.i64.wrap 1 = 1 := by rw [fT] <;> omega

theorem v2 : IntKind.i64.wrap 2 = 2 := by rw [fT] <;> omega

theorem v3 : IntKind.i64.wrap (-1) = -1 := by rw [fT] <;> omega

end Go.Abs
namespace Go.Abs
open Go
theorem ZQ (f : List aB) : (told f).1.length ≤ 1024 := by
  unfold told
  cases h : fN f
  · simp
  · simpa using (lV.1 h).1

end Go.Abs
namespace Go.Abs
theorem aAC : @dK = @mZ aB _ := rfl

theorem XS : @dQ = @dV aB _ := rfl

theorem UG (cmp) : ∀ k, @gJ cmp k = @dX aB _ cmp k
  | 0 => rfl
  | k + 1 => by
    show dQ cmp _ = dV cmp _
    rw [UG cmp k, XS]

theorem ZU : @eE = @oR aB _ := by
  funext d a m b cmp
  unfold eE oR
  simp only [UG]

theorem TO : @fA = @wZ aB _ := by
  funext d n cmp
  unfold fA wZ iG yV
  unfold iA mD eV zC
  unfold hM yQ iD jM
  unfold gY vM iE mB
  unfold eU vJ
  rw [ZU, aAC]
  rfl

end Go.Abs
namespace Go.Abs
open Go
variable {α : Type} [Inhabited α]
noncomputable def oY (f1 : α → Option Bool) (s0 : (List α)) (t7 : Int) (t8 : Int) : Option ((Int) ⊕ (Unit ⊕ Int)) :=
  cond (decide (t8 < t7))
  (bI (0 ≤ t8 ∧ t8 < ((List.length s0 : Nat) : Int)) <|
  (f1 (List.getD s0 (Int.toNat t8) default)).bind fun x2 =>
  cond x2
  (some (.inr (.inr t8)))
  (some (.inl (IntKind.i64.wrap (t8 + (1 : Int))))))
  (some (.inr (.inl ())))

theorem BB {l : List α} {f : α → Option Bool} {g : α → Bool} (hl : l.length ≤ 1099511627776) (hf : ∀ x ∈ l, f x = some (g x)) : ∀ (r : List α) (k : Nat), l.drop k = r → k ≤ l.length →
    ∃ x, lp (fun s => oY f l (l.length : Nat) s) (k : Int) = some x ∧ ((x = .inl () ∧ r.any g = false) ∨ (∃ i : Nat, x = .inr (i : Int) ∧ k ≤ i ∧ i < l.length ∧ r.any g = true ∧ g (l.getD i default) = true ∧ ∀ j, k ≤ j → j < i → g (l.getD j default) = false))
  | [], k, hd, hk => by
    have : k = l.length := by
      have := congrArg List.length hd
      simp only [List.length_drop, List.length_nil] at this; omega
    subst this
    refine ⟨.inl (), cO ?_, Or.inl ⟨rfl, rfl⟩⟩
    show oY f l _ _ = _
    simp only [oY, jB, cond_false]
  | a :: r, k, hd, hk => by
    obtain ⟨h1, h2⟩ := drop_cons hd
    have hlt : k < l.length := (List.getElem?_eq_some_iff.1 h1).1
    obtain ⟨d1, d2, d3, d4⟩ := idx h1 (by omega)
    have hga : l.getD k default = a := by rw [Int.toNat_natCast] at d3; exact d3
    have hb : (fun s => oY f l (l.length : Nat) s) (k : Int) = some (if g a then .inr (.inr (k : Int)) else .inl ((k + 1 : Nat) : Int)) := by
      show oY f l _ _ = _
      simp only [oY, d1, cond_true, bD d2, d3, d4, hf a (List.mem_of_getElem? h1), Option.bind_some]
      cases g a <;> simp
    cases hg : g a
    · rw [hg] at hb
      obtain ⟨x, e, hx⟩ := BB hl hf r (k + 1) h2 (by omega)
      refine ⟨x, by rw [eG hb]; exact e, ?_⟩
      rcases hx with ⟨rfl, h⟩ | ⟨i, rfl, h3, h4, h5, h6, h7⟩
      · exact Or.inl ⟨rfl, by simp [hg, h]⟩
      · refine Or.inr ⟨i, rfl, by omega, h4, by simp [h5], h6, fun j hj hj' => ?_⟩
        by_cases e : j = k
        · subst e; rw [hga, hg]
        · exact h7 j (by omega) hj'
    · rw [hg] at hb
      exact ⟨.inr (k : Int), cO hb, Or.inr ⟨k, rfl, Nat.le_refl _, hlt, by simp [hg], by rw [hga, hg], fun j h h' => by omega⟩⟩

end Go.Abs
namespace Go.Abs
open Go
theorem GW {l : List aB} {f : aB → Option Bool} {g : aB → Bool} (hl : l.length ≤ 1099511627776) (hf : ∀ x ∈ l, f x = some (g x)) : cQ l f = some (l.any g) := by
  unfold cQ fK fE
  obtain ⟨x, e, hx⟩ := BB hl hf l 0 rfl (Nat.zero_le _)
  have e' : lp (fun s => fC f l (l.length : Nat) s) 0 = some x := e
  rw [e']
  rcases hx with ⟨rfl, h⟩ | ⟨i, rfl, _, _, h, _⟩
  · simp [dO, h]
  · simp [h]

def sK (j : aB) : Bool := !zV j.Net

def yL (j : aB) : Bool := decide (j.At < -1) || decide (1125899906842624 < j.At)

def wP (l : List aB) : List aB := yW 0 ((MM [] (l.filter fun j => decide (j.At < 1125899906842624))).map fun p => (p, val l p))

def jD (l : List aB) : List aB × Int := if l.any sK then ([], 2) else if l.any yL then ([], 13) else told (wP l)

def zR (p n : Int) : List aB := if n ≠ 0 ∧ p < 1125899906842624 then [⟨p, n⟩] else []

def vC (p n : Int) : List aB → List aB
  | [] => zR p n
  | j :: r => if j.At = p then vC p (n + j.Net) r else zR p n ++ vC j.At j.Net r

def grp : List aB → List aB
  | [] => []
  | j :: r => vC j.At j.Net r

abbrev QT (a b : aB) : Prop := a.At ≤ b.At

theorem IW {t : Int} (ht : t < 1125899906842624) : ∀ {r : List aB} {p n : Int}, val (vC p n r) t = (if p ≤ t then n else 0) + val r t
  | [], p, n => by
    unfold vC zR
    split
    · rw [cD, oV]
    · rw [oV]; split <;> omega
  | j :: r, p, n => by
    unfold vC
    split
    · rename_i h
      rw [IW ht, cD, h]; split <;> omega
    · rw [xI, IW ht, cD]
      have : val (zR p n) t = if p ≤ t then n else 0 := by
        unfold zR
        split
        · rw [cD, oV]; simp
        · rw [oV]; split <;> omega
      rw [this]

theorem aAS {t : Int} (ht : t < 1125899906842624) : ∀ {r : List aB}, val (grp r) t = val r t
  | [] => rfl
  | j :: r => by unfold grp; rw [IW ht, cD]

theorem LX : ∀ {r : List aB} {p n last : Int}, last < p → (∀ j ∈ r, p ≤ j.At) → Srt QT r → Up last (vC p n r)
  | [], p, n, last, h, _, _ => by
    unfold vC zR
    split
    · rename_i h'; exact ⟨⟨h, h'.2, h'.1⟩, trivial⟩
    · trivial
  | j :: r, p, n, last, h, hp, hs => by
    have hj := hp j (by simp)
    have hs' := List.pairwise_cons.1 hs
    unfold vC
    split
    · exact LX h (fun k hk => hp k (by simp [hk])) hs'.2
    · have ih : Up p (vC j.At j.Net r) := LX (by omega) (fun k hk => hs'.1 k hk) hs'.2
      unfold zR
      split
      · rename_i h'; exact ⟨⟨h, h'.2, h'.1⟩, ih⟩
      · exact ih.weaken (by omega)

theorem aBX {r : List aB} (h : ∀ j ∈ r, -2 < j.At) (hs : Srt QT r) : Up (-2) (grp r) := by
  cases r with
  | nil => trivial
  | cons j r =>
    have hs' := List.pairwise_cons.1 hs
    exact LX (h j (by simp)) (fun k hk => hs'.1 k hk) hs'.2

theorem QL {l out : List aB} (hl : l.length ≤ 1099511627776) (hb : ∀ j ∈ l, j.Net ≤ 1048576 ∧ -1048576 ≤ j.Net) : ∀ (r : List aB) (k : Nat) (p n : Int), l.drop k = r → k ≤ l.length → n ≤ 1048576 * k → -(1048576 * k) ≤ n →
    ∃ n' k', k ≤ k' ∧ k' ≤ l.length ∧ vC p n r = zR p n' ++ grp (l.drop k') ∧ lp (fun s : List aB × List aB × Int × aB => jG s.1 s.2.1 s.2.2.1 s.2.2.2) (l, out, (k : Int), ⟨p, n⟩) = some (l, out, ((k' : Nat) : Int), ⟨p, n'⟩) ∧ (∀ j r', r = j :: r' → j.At = p → k < k')
  | [], k, p, n, hd, hk, _, _ => by
    have : k = l.length := by
      have := congrArg List.length hd
      simp only [List.length_drop, List.length_nil] at this; omega
    subst this
    refine ⟨n, l.length, Nat.le_refl _, Nat.le_refl _, by simp [vC, grp], cO ?_, fun j r' h => by cases h⟩
    show jG _ _ _ _ = _
    simp only [jG, jB, Bool.false_and, cond_false]
    exact bD (fun h => by cases h)
  | a :: r, k, p, n, hd, hk, h1, h2 => by
    obtain ⟨e1, e2⟩ := drop_cons hd
    have hlt : k < l.length := (List.getElem?_eq_some_iff.1 e1).1
    obtain ⟨d1, d2, d3, d4⟩ := idx e1 (by omega)
    have ha := hb a (List.mem_of_getElem? e1)
    by_cases h : a.At = p
    · have hw : IntKind.i64.wrap (n + a.Net) = n + a.Net := fT (by omega) (by omega)
      obtain ⟨n', k', k1, k2, k3, k4, _⟩ := QL hl hb r (k + 1) p (n + a.Net) e2 (by omega) (by omega) (by omega) (out := out)
      refine ⟨n', k', by omega, k2, by simp [vC, h, k3], ?_, fun _ _ _ _ => by omega⟩
      have hb : (fun s : List aB × List aB × Int × aB => jG s.1 s.2.1 s.2.2.1 s.2.2.2) (l, out, (k : Int), ⟨p, n⟩) = some (.inl (l, out, ((k + 1 : Nat) : Int), ⟨p, n + a.Net⟩)) := by
        show jG _ _ _ _ = _
        simp only [jG, d1, Bool.true_and, d3, d4, h, decide_true, cond_true, hw]
        rw [bD (fun _ => d2), bD d2]
      rw [eG hb, k4]
    · refine ⟨n, k, Nat.le_refl _, hk, ?_, cO ?_, fun j r' he hp => ?_⟩
      · rw [hd]; simp [vC, h, grp]
      · show jG _ _ _ _ = _
        simp only [jG, d1, Bool.true_and, d3, h, decide_false, cond_false]
        exact bD (fun _ => d2)
      · cases he; exact absurd hp h

theorem ZW {l : List aB} (hl : l.length ≤ 1099511627776) (hb : ∀ j ∈ l, j.Net ≤ 1048576 ∧ -1048576 ≤ j.Net) : ∀ (m k : Nat) (out : List aB), l.length - k ≤ m → k ≤ l.length → out.length ≤ k →
    lp (fun s : List aB × List aB × Int => lC s.1 s.2.1 s.2.2) (l, out, (k : Int)) = some (out ++ grp (l.drop k)) := by
  have stop : ∀ out, lp (fun s : List aB × List aB × Int => lC s.1 s.2.1 s.2.2) (l, out, ((l.length : Nat) : Int)) = some (out ++ grp (l.drop l.length)) := by
    intro out
    refine cO ?_
    show lC _ _ _ = _
    simp only [lC, jB, cond_false]
    simp [grp]
  intro m
  induction m with
  | zero =>
    intro k out hm hk _
    have : k = l.length := by omega
    subst this; exact stop out
  | succ m ih =>
    intro k out hm hk ho
    by_cases he : k = l.length
    · subst he; exact stop out
    · have hlt : k < l.length := by omega
      have hd : l.drop k = l[k] :: l.drop (k + 1) := List.drop_eq_getElem_cons hlt
      obtain ⟨d1, d2, d3, d4⟩ := idx (List.getElem?_eq_getElem hlt) (by omega)
      obtain ⟨n', k', k1, k2, k3, k4, k5⟩ := QL hl hb (l.drop k) k l[k].At 0 rfl hk (by omega) (by omega) (out := out)
      have hk' := k5 _ _ hd rfl
      have hbod : (fun s : List aB × List aB × Int => lC s.1 s.2.1 s.2.2) (l, out, (k : Int)) = some (.inl (l, out ++ zR l[k].At n', ((k' : Nat) : Int))) := by
        show lC _ _ _ = _
        simp only [lC, d1, cond_true, bD d2, d3, xN, k4, Option.bind_some, uK]
        unfold zR
        by_cases c : n' ≠ 0 ∧ l[k].At < 1125899906842624
        · have hc : (!decide (n' = 0) && decide (l[k].At < 1125899906842624)) = true := by simp [c]
          rw [hc, cond_true, if_pos c, bD (by simp only [List.length_cons, List.length_nil]; omega)]
        · have hc : (!decide (n' = 0) && decide (l[k].At < 1125899906842624)) = false := by
            rw [Bool.eq_false_iff]; intro h; apply c; simpa using h
          rw [hc, cond_false, if_neg c]; simp
      have hfl : (zR l[k].At n').length ≤ 1 := by unfold zR; split <;> simp
      rw [eG hbod, ih k' _ (by omega) k2 (by simp only [List.length_append]; omega)]
      have hg : grp (l.drop k) = vC l[k].At 0 (l.drop k) := by rw [hd]; simp [grp, vC]
      rw [hg, k3]; simp

theorem aA7 (a b : aB) : mM a b = some (if a.At < b.At then -1 else if b.At < a.At then 1 else 0) := by
  unfold mM iU nT
  by_cases h1 : a.At < b.At
  · simp [h1]
  · by_cases h2 : b.At < a.At <;> simp [h1, h2]

theorem aCk : Cmp (fun _ => True) QT (fun y0 y1 => mM y0 y1) where
  ans x y _ _ := ⟨_, aA7 x y, by unfold QT; split <;> (try split) <;> omega⟩
  trans x y z _ _ _ h1 h2 := Int.le_trans h1 h2
  total x y _ _ := Int.le_total x.At y.At

theorem aCc {l : List aB} (hl : l.length ≤ 1099511627776) : ∃ r, r.Perm l ∧ Srt QT r ∧ cY l (fun y0 y1 => mM y0 y1) = some r := by
  obtain ⟨r, r1, r2, r3⟩ := NU aCk (d := l) (fun _ _ => trivial) hl
  refine ⟨r, r1, r2, ?_⟩
  unfold cY
  rw [TO, r3]; rfl

theorem QC {f g : List aB} (h : f.Perm g) (t : Int) : val f t = val g t := by
  induction h with
  | nil => rfl
  | cons x _ ih => rw [cD, cD, ih]
  | swap x y l => rw [cD, cD, cD, cD]; omega
  | trans _ _ ih1 ih2 => rw [ih1, ih2]

theorem WS {l : List aB} (h : l.any sK = false) : ∀ j ∈ l, j.Net ≤ 1048576 ∧ -1048576 ≤ j.Net := by
  intro j hj
  have := List.any_eq_false.1 h j hj
  simp [sK, zV] at this
  omega

theorem yO {l : List aB} (h : l.any yL = false) : ∀ j ∈ l, -2 < j.At ∧ j.At ≤ 1125899906842624 := by
  intro j hj
  have := List.any_eq_false.1 h j hj
  simp [yL] at this
  omega

theorem GK {l : List aB} (ht : ∀ j ∈ l, -2 < j.At) : Inc (-2) (MM [] (l.filter fun j => decide (j.At < 1125899906842624))) :=
  PJ (ps := []) (show Inc (-2) [] from trivial) fun j hj => by
    obtain ⟨h1, h2⟩ := List.mem_filter.1 hj
    exact ⟨ht j h1, by simpa using h2⟩

theorem JH {l h : List aB} (ht : ∀ j ∈ l, -2 < j.At) (hh : Up (-2) h) (hv : ∀ t, -2 < t → t < 1125899906842624 → val h t = val l t) : wP l = h := by
  refine aAg (F := val l) (wY fun j hj => ht j hj) (GK ht) ?_ hh hv
  intro s t _ hst h2 hn
  exact BO hst fun j hj hc => hn j.At (IV.2 (Or.inr ⟨j, List.mem_filter.2 ⟨hj, by simp; omega⟩, rfl⟩)) hc

theorem norm_eq {l : List aB} (hl : l.length ≤ 1099511627776) : vP l = some (jD l) := by
  unfold vP jD
  rw [GW (g := sK) hl (fun x _ => by simp [sF, UQ, sK])]
  simp only [Option.bind_some]
  cases h1 : l.any sK
  · rw [GW (f := fun y0 => sI y0) (g := yL) hl (fun x _ => rfl)]
    simp only [cond_false, Option.bind_some, Bool.false_eq_true, if_false]
    cases h2 : l.any yL
    · simp only [cond_false, Bool.false_eq_true, if_false]
      have hc : eW l = some l := by unfold eW; exact bD ⟨by omega, by omega⟩
      obtain ⟨r, r1, r2, r3⟩ := aCc hl
      rw [hc]
      simp only [Option.bind_some]
      rw [r3]
      simp only [Option.bind_some, xZ]
      have hlr : r.length ≤ 1099511627776 := by rw [r1.length_eq]; exact hl
      have := ZW hlr (fun j hj => WS h1 j (r1.mem_iff.1 hj)) r.length 0 [] (by omega) (by omega) (by simp)
      simp only [Int.natCast_zero, List.drop_zero, List.nil_append] at this
      rw [this]
      simp only [Option.bind_some, uL, ZV]
      rw [JH (fun j hj => (yO h2 j hj).1) (aBX (fun j hj => (yO h2 j (r1.mem_iff.1 hj)).1) r2) (fun t _ ht => by rw [aAS ht, QC r1])]
    · simp
  · simp

end Go.Abs
namespace Go.Abs
open Go
theorem NT (x y : ByteArray) : oE x y = decide (x = y) := by
  unfold oE
  rw [ByteArray.toList_eq, ByteArray.toList_eq]
  by_cases h : x = y
  · simp [h]
  · have : x.data.toList ≠ y.data.toList := by
      intro he
      apply h
      cases x; cases y
      congr 1
      exact Array.toList_inj.1 he
    have h2 : (x.data.toList == y.data.toList) = false := by simpa using this
    rw [h2]; simp [h]

theorem veq (a b : aF) : ((decide (a.Kind = b.Kind)) && ((decide (a.Num = b.Num)) && ((oE a.Text b.Text) && true))) = decide (a = b) := by
  rw [NT]
  obtain ⟨a1, a2, a3⟩ := a
  obtain ⟨b1, b2, b3⟩ := b
  by_cases h1 : a1 = b1 <;> by_cases h2 : a2 = b2 <;> by_cases h3 : a3 = b3 <;> simp [h1, h2, h3]

def ES (v : aF) : Bool := decide (v.Kind = 1) && oE v.Text (⟨#[]⟩ : ByteArray)

def EH (v : aF) : Bool := ((decide (v.Kind = 2)) && (decide (v.Num = 0))) && (decide (((ByteArray.size v.Text : Nat) : Int) ≤ 64))

def EC (v : aF) : Bool := ES v || EH v

def mU (r : List aF) : Bool := decide (r.length ≤ 8) && r.all EC

theorem of_eq (v : aF) : lG v = some (if ES v then (.k_number v.Num, true) else if EH v then (.k_words v.Text, true) else (.none_, false)) := by
  unfold lG ES EH
  cases (decide (v.Kind = 1) && oE v.Text (⟨#[]⟩ : ByteArray)) <;> cases (((decide (v.Kind = 2)) && (decide (v.Num = 0))) && (decide (((ByteArray.size v.Text : Nat) : Int) ≤ 64))) <;> rfl

theorem aBh (v : aF) : vO v = some (EC v) := by
  unfold vO EC
  rw [of_eq]
  cases ES v <;> cases EH v <;> rfl

theorem PL {l : List aF} {f : aF → Option Bool} {g : aF → Bool} (hl : l.length ≤ 1099511627776) (hf : ∀ x ∈ l, f x = some (g x)) : dH l f = some (l.any g) := by
  unfold dH fM fF
  obtain ⟨x, e, hx⟩ := BB hl hf l 0 rfl (Nat.zero_le _)
  have e' : lp (fun s => fH f l (l.length : Nat) s) 0 = some x := e
  rw [e']
  rcases hx with ⟨rfl, h⟩ | ⟨i, rfl, _, _, h, _⟩
  · simp [dN, h]
  · simp [h]

theorem AL (r : List aF) : oJ r = some (mU r) := by
  unfold oJ mU
  by_cases h : r.length ≤ 8
  · have h1 : decide ((8 : Int) < ((r.length : Nat) : Int)) = false := by simp; omega
    rw [h1, cond_false, PL (g := fun v => !EC v) (by omega) (fun x _ => by simp [vK, aBh])]
    simp only [Option.bind_some, h, decide_true, Bool.true_and]
    congr 1
    rw [List.all_eq_not_any_not]
  · have h1 : decide ((8 : Int) < ((r.length : Nat) : Int)) = true := by simp; omega
    rw [h1, cond_true]
    simp [h]

theorem JV {α : Type} [DecidableEq α] {f g : List α} {body : Int → Option (Int ⊕ (Unit ⊕ Bool))} (he : f.length = g.length)
    (hb : ∀ (i : Nat) a b, f[i]? = some a → g[i]? = some b → body i = some (if a = b then .inl ((i + 1 : Nat) : Int) else .inr (.inr false)))
    (hend : body (f.length : Nat) = some (.inr (.inl ()))) : ∀ (m k : Nat), f.length - k = m → k ≤ f.length → lp body (k : Int) = some (if f.drop k = g.drop k then .inl () else .inr false)
  | 0, k, hm, hk => by
    have : k = f.length := by omega
    subst this
    rw [List.drop_length, he, List.drop_length, if_pos rfl]
    rw [← he]
    exact cO hend
  | m + 1, k, hm, hk => by
    have h1 : k < f.length := by omega
    have h2 : k < g.length := by omega
    have hbk := hb k _ _ (List.getElem?_eq_getElem h1) (List.getElem?_eq_getElem h2)
    have e1 : f.drop k = f[k] :: f.drop (k + 1) := List.drop_eq_getElem_cons h1
    have e2 : g.drop k = g[k] :: g.drop (k + 1) := List.drop_eq_getElem_cons h2
    have hiff : (f.drop k = g.drop k) ↔ (f[k] = g[k] ∧ f.drop (k + 1) = g.drop (k + 1)) := by rw [e1, e2, List.cons.injEq]
    by_cases h : f[k] = g[k]
    · rw [if_pos h] at hbk
      rw [eG hbk, JV he hb hend m (k + 1) (by omega) (by omega)]
      simp only [hiff, h, true_and]
    · rw [if_neg h] at hbk
      rw [cO hbk]
      simp only [hiff, h, false_and, if_false]

theorem LD {α : Type} {f g : List α} (h : f.length ≠ g.length) : (!decide (((f.length : Nat) : Int) = ((g.length : Nat) : Int))) = true := by simp; omega

theorem KY {α : Type} {f g : List α} (h : f.length = g.length) : (!decide (((f.length : Nat) : Int) = ((g.length : Nat) : Int))) = false := by simp [h]

theorem EV (a b : List aF) (hl : a.length ≤ 17592186044416) : rT a b = some (decide (a = b)) := by
  unfold rT gR
  by_cases he : a.length = b.length
  · rw [KY he, cond_false]
    unfold gP
    have := JV (f := a) (g := b) (body := fun s => dJ a b (a.length : Nat) s) he ?_ ?_ a.length 0 rfl (Nat.zero_le _)
    · simp only [Int.natCast_zero, List.drop_zero] at this
      rw [this]
      by_cases h : a = b <;> simp [h, eD]
    · intro i x y hx hy
      obtain ⟨d1, d2, d3, d4⟩ := idx hx (by omega)
      obtain ⟨_, e2, e3, _⟩ := idx hy (by omega)
      simp only [dJ, d1, cond_true, bD d2, bD e2, d3, e3, d4, veq]
      by_cases h : x = y <;> simp [h]
    · simp only [dJ, jB, cond_false]
  · rw [LD he, cond_true]
    have : a ≠ b := fun h => he (by rw [h])
    simp [this]

theorem FG (a b : List aF) (hl : a.length ≤ 17592186044416) : qO a b = some (decide (a = b)) := by
  unfold qO
  by_cases he : a.length = b.length
  · rw [KY he, cond_false]
    unfold wQ
    have := JV (f := a) (g := b) (body := fun s => pN a b s) he ?_ ?_ a.length 0 rfl (Nat.zero_le _)
    · simp only [Int.natCast_zero, List.drop_zero] at this
      rw [this]
      by_cases h : a = b <;> simp [h, rZ]
    · intro i x y hx hy
      obtain ⟨d1, d2, d3, d4⟩ := idx hx (by omega)
      obtain ⟨_, e2, e3, _⟩ := idx hy (by omega)
      simp only [pN, d1, cond_true, bD d2, bD e2, d3, e3, d4, veq]
      by_cases h : x = y <;> simp [h]
    · simp only [pN, jB, cond_false]
  · rw [LD he, cond_true]
    have : a ≠ b := fun h => he (by rw [h])
    simp [this]

structure FP {α : Type} (c : α → α → Int) : Prop where
  eq : ∀ a b, c a b = 0 ↔ a = b
  anti : ∀ a b, c a b < 0 ↔ 0 < c b a
  trans : ∀ a b d, c a b < 0 → c b d < 0 → c a d < 0

def qD (x y : Int) : Int := if x < y then -1 else if y < x then 1 else 0

theorem AQ : FP qD where
  eq a b := by unfold qD; (repeat' split) <;> omega
  anti a b := by unfold qD; (repeat' split) <;> omega
  trans a b d := by unfold qD; (repeat' split) <;> omega

def kZ {α : Type} [DecidableEq α] (c : α → α → Int) : List α → List α → Int
  | [], [] => 0
  | [], _ :: _ => -1
  | _ :: _, [] => 1
  | a :: r, b :: s => if a = b then kZ c r s else c a b

theorem FP.list {α : Type} [DecidableEq α] {c : α → α → Int} (h : FP c) : FP (kZ c) where
  eq := by
    intro a
    induction a with
    | nil => intro b; cases b <;> simp [kZ]
    | cons x r ih =>
      intro b
      cases b with
      | nil => simp [kZ]
      | cons y s =>
        unfold kZ
        split
        · rename_i e; subst e; rw [ih]; simp
        · rename_i e
          have := h.eq x y
          constructor
          · intro h0; exact absurd (this.1 h0) e
          · intro h0; cases h0; exact absurd rfl e
  anti := by
    intro a
    induction a with
    | nil => intro b; cases b <;> simp [kZ]
    | cons x r ih =>
      intro b
      cases b with
      | nil => simp [kZ]
      | cons y s =>
        unfold kZ
        by_cases e : x = y
        · subst e; simp only [if_true]; exact ih s
        · rw [if_neg e, if_neg (fun e' => e e'.symm)]; exact h.anti x y
  trans := by
    intro a
    induction a with
    | nil =>
      intro b d
      cases b <;> cases d <;> simp [kZ]
    | cons x r ih =>
      intro b d
      cases b with
      | nil => simp [kZ]
      | cons y s =>
        cases d with
        | nil => simp [kZ]
        | cons z t =>
          unfold kZ
          by_cases e1 : x = y
          · subst e1
            rw [if_pos rfl]
            by_cases e2 : x = z
            · subst e2; rw [if_pos rfl, if_pos rfl]; exact ih s t
            · rw [if_neg e2, if_neg e2]; exact fun _ h => h
          · rw [if_neg e1]
            by_cases e2 : y = z
            · have hz : ¬ x = z := fun e => e1 (e.trans e2.symm)
              intro h _
              rw [if_neg hz, ← e2]; exact h
            · rw [if_neg e2]
              intro h1 h2
              by_cases e3 : x = z
              · subst e3
                have h3 := (h.anti x y).1 h1
                omega
              · rw [if_neg e3]; exact h.trans x y z h1 h2

def JG (a b : UInt8) : Int := if a < b then -1 else if b < a then 1 else 0

theorem IU : FP JG where
  eq a b := by
    unfold JG
    constructor
    · intro h
      split at h
      · cases h
      · split at h
        · cases h
        · rename_i h1 h2
          rw [UInt8.lt_iff_toNat_lt] at h1 h2
          exact UInt8.toNat_inj.1 (by omega)
    · rintro rfl
      have : ¬ a < a := by rw [UInt8.lt_iff_toNat_lt]; omega
      simp [this]
  anti a b := by
    unfold JG
    simp only [UInt8.lt_iff_toNat_lt]
    (repeat' split) <;> omega
  trans a b d := by
    unfold JG
    simp only [UInt8.lt_iff_toNat_lt]
    (repeat' split) <;> omega

theorem BT : ∀ (a b : List UInt8), Go.Lib.compareBytes a b = kZ JG a b
  | [], [] => rfl
  | [], _ :: _ => rfl
  | _ :: _, [] => rfl
  | a :: r, b :: s => by
    unfold Go.Lib.compareBytes kZ
    rw [BT r s]
    by_cases e : a = b
    · subst e
      have : ¬ a < a := by rw [UInt8.lt_iff_toNat_lt]; omega
      simp [this]
    · rw [if_neg e]
      unfold JG
      have : ¬ (¬ a < b ∧ ¬ b < a) := by
        rintro ⟨h1, h2⟩
        rw [UInt8.lt_iff_toNat_lt] at h1 h2
        exact e (UInt8.toNat_inj.1 (by omega))
      by_cases h1 : a < b
      · simp [h1]
      · have h2 : b < a := Classical.byContradiction fun h2 => this ⟨h1, h2⟩
        simp [h1, h2]

def PX (a b : ByteArray) : Int := kZ JG a.data.toList b.data.toList

theorem aA0 (a b : ByteArray) : MG a b = PX a b := BT _ _

theorem data_inj {x y : ByteArray} (h : x.data.toList = y.data.toList) : x = y := by
  cases x; cases y
  congr 1
  exact Array.toList_inj.1 h

theorem DL : FP PX where
  eq a b := by unfold PX; rw [(IU.list).eq]; exact ⟨data_inj, fun h => by rw [h]⟩
  anti a b := (IU.list).anti _ _
  trans a b d := (IU.list).trans _ _ _

def AW (a b : aF) : Int := if a.Kind = b.Kind then (if a.Num = b.Num then PX a.Text b.Text else qD a.Num b.Num) else qD a.Kind b.Kind

theorem aAt : FP AW where
  eq a b := by
    obtain ⟨a1, a2, a3⟩ := a
    obtain ⟨b1, b2, b3⟩ := b
    unfold AW
    simp only [aF.mk.injEq]
    by_cases h1 : a1 = b1
    · by_cases h2 : a2 = b2
      · simp [h1, h2, DL.eq]
      · simp [h1, h2, AQ.eq]
    · simp [h1, AQ.eq]
  anti a b := by
    unfold AW
    by_cases h1 : a.Kind = b.Kind
    · rw [if_pos h1, if_pos h1.symm]
      by_cases h2 : a.Num = b.Num
      · rw [if_pos h2, if_pos h2.symm]; exact DL.anti _ _
      · rw [if_neg h2, if_neg (fun h => h2 h.symm)]; exact AQ.anti _ _
    · rw [if_neg h1, if_neg (fun h => h1 h.symm)]; exact AQ.anti _ _
  trans a b d := by
    unfold AW
    intro h1 h2
    have lt : ∀ {x y : Int}, qD x y < 0 → x < y := fun {x y} h => by unfold qD at h; split at h <;> (try split at h) <;> omega
    have mk : ∀ {x y : Int}, x < y → qD x y < 0 := fun {x y} h => by unfold qD; rw [if_pos h]; omega
    by_cases e1 : a.Kind = b.Kind
    · rw [if_pos e1] at h1
      by_cases e2 : b.Kind = d.Kind
      · rw [if_pos e2] at h2
        rw [if_pos (e1.trans e2)]
        by_cases f1 : a.Num = b.Num
        · rw [if_pos f1] at h1
          by_cases f2 : b.Num = d.Num
          · rw [if_pos f2] at h2
            rw [if_pos (f1.trans f2)]
            exact DL.trans _ _ _ h1 h2
          · rw [if_neg f2] at h2
            rw [f1, if_neg f2]; exact h2
        · rw [if_neg f1] at h1
          have g1 := lt h1
          by_cases f2 : b.Num = d.Num
          · rw [← f2, if_neg f1]; exact h1
          · rw [if_neg f2] at h2
            have g2 := lt h2
            rw [if_neg (by omega)]
            exact mk (by omega)
      · rw [if_neg e2] at h2
        rw [e1, if_neg e2]; exact h2
    · rw [if_neg e1] at h1
      have g1 := lt h1
      by_cases e2 : b.Kind = d.Kind
      · rw [← e2, if_neg e1]; exact h1
      · rw [if_neg e2] at h2
        have g2 := lt h2
        rw [if_neg (by omega)]
        exact mk (by omega)

def iY (a b : List aF) : Int := kZ AW a b

theorem jF : FP iY := aAt.list

end Go.Abs
namespace Go.Abs
open Go
theorem NS (x y : Int) : iU x y = some (qD x y) := by
  unfold iU nT qD
  by_cases h1 : x < y
  · simp [h1]
  · by_cases h2 : y < x <;> simp [h1, h2]

theorem YC (x y : Int) : dY x y = some (qD x y) := by
  unfold dY jI qD
  by_cases h1 : x < y
  · simp [h1]
  · by_cases h2 : y < x <;> simp [h1, h2]

theorem HH {v : aF} (h : ES v = true) : v.Kind = 1 ∧ v.Text = (⟨#[]⟩ : ByteArray) := by
  simp only [ES, NT, Bool.and_eq_true, decide_eq_true_eq] at h; exact h

theorem ET {v : aF} (h : EH v = true) : v.Kind = 2 ∧ v.Num = 0 ∧ v.Text.size ≤ 64 := by
  simp only [EH, Bool.and_eq_true, decide_eq_true_eq] at h; exact ⟨h.1.1, h.1.2, by omega⟩

theorem UD {v : aF} (h : EC v = true) : ES v = true ∨ (ES v = false ∧ EH v = true) := by
  unfold EC at h
  cases hn : ES v
  · rw [hn] at h; exact .inr ⟨rfl, by simpa using h⟩
  · exact .inl rfl

theorem ZF (a : ByteArray) : PX a a = 0 := (DL.eq a a).2 rfl

theorem GH (a : Int) : qD a a = 0 := (AQ.eq a a).2 rfl

theorem YE {a b : aF} (ha : EC a = true) (hb : EC b = true) : pX a b = some (AW a b) := by
  unfold pX
  simp only [of_eq, Option.bind_some]
  rcases UD ha with h1 | ⟨h1, h1'⟩ <;> rcases UD hb with h2 | ⟨h2, h2'⟩
  · obtain ⟨k1, t1⟩ := HH h1
    obtain ⟨k2, t2⟩ := HH h2
    simp only [h1, h2, if_true, Bool.not_true, Bool.or_self, cond_false, YC, Option.bind_some]
    unfold AW
    rw [k1, k2, t1, t2, if_pos rfl, ZF]
    by_cases hn : a.Num = b.Num
    · rw [if_pos hn, hn, GH]
    · rw [if_neg hn]
  · obtain ⟨k1, t1⟩ := HH h1
    obtain ⟨k2, n2, _⟩ := ET h2'
    simp only [h1, h2, h2', if_true, Bool.false_eq_true, if_false, Bool.not_true, Bool.or_self, cond_false]
    unfold AW
    rw [k1, k2]; rfl
  · obtain ⟨k1, n1, _⟩ := ET h1'
    obtain ⟨k2, t2⟩ := HH h2
    simp only [h1, h1', h2, if_true, Bool.false_eq_true, if_false, Bool.not_true, Bool.or_self, cond_false]
    unfold AW
    rw [k1, k2]; rfl
  · obtain ⟨k1, n1, _⟩ := ET h1'
    obtain ⟨k2, n2, _⟩ := ET h2'
    simp only [h1, h1', h2, h2', if_true, Bool.false_eq_true, if_false, Bool.not_true, Bool.or_self, cond_false]
    unfold AW mK iH
    rw [k1, k2, n1, n2, if_pos rfl, if_pos rfl]
    simp [aA0]

theorem LY {r : List aF} (h : mU r = true) : r.length ≤ 8 ∧ ∀ v ∈ r, EC v = true := by
  simp only [mU, Bool.and_eq_true, decide_eq_true_eq, List.all_eq_true] at h; exact h

theorem aAA {a b : List aF} {k : Nat} (hk : k = a.length ∨ k = b.length) (h1 : k ≤ a.length) (h2 : k ≤ b.length) : iY (a.drop k) (b.drop k) = qD a.length b.length := by
  rcases hk with rfl | rfl
  · rw [List.drop_length]
    by_cases h : a.length = b.length
    · rw [h, List.drop_length, GH]; rfl
    · rw [List.drop_eq_getElem_cons (by omega)]
      show (-1 : Int) = _
      unfold qD; rw [if_pos (by omega)]
  · rw [List.drop_length]
    by_cases h : a.length = b.length
    · rw [← h, List.drop_length, GH]; rfl
    · rw [List.drop_eq_getElem_cons (by omega)]
      show (1 : Int) = _
      unfold qD; rw [if_neg (by omega), if_pos (by omega)]

theorem TY {a b : List aF} (hl : a.length ≤ 8) (hlb : b.length ≤ 8) (n : Nat) (hn : n = min a.length b.length) : ∀ (m k : Nat), n - k = m → k ≤ n →
    ∃ x, lp (fun s : Int × Int => bW (fun st y0 => (iV y0 st b).bind fun o => some (o.2, o.1)) (a.take n) (n : Nat) s.1 s.2) ((k : Int) - 1, (k : Int)) = some x ∧
      ((∃ sg, x = .inl sg ∧ iY (a.drop k) (b.drop k) = qD a.length b.length) ∨
        (∃ i : Nat, x = .inr ((i : Int), (i : Int)) ∧ i < a.length ∧ i < b.length ∧ iY (a.drop k) (b.drop k) = AW (a.getD i default) (b.getD i default)))
  | 0, k, hm, hk => by
    have : k = n := by omega
    subst this
    refine ⟨.inl ((k : Int) - 1), cO ?_, .inl ⟨_, rfl, aAA (by omega) (by omega) (by omega)⟩⟩
    show bW _ _ _ _ _ = _
    simp only [bW, jB, cond_false]
  | m + 1, k, hm, hk => by
    have h1 : k < a.length := by omega
    have h2 : k < b.length := by omega
    have ht : (a.take n)[k]? = some a[k] := by
      rw [List.getElem?_take_of_lt (by omega)]; exact List.getElem?_eq_getElem h1
    obtain ⟨d1, d2, d3, d4⟩ := idx ht (by simp; omega)
    have hlt : (a.take n).length = n := by simp; omega
    rw [hlt] at d1 d2
    obtain ⟨_, e2, e3, _⟩ := idx (List.getElem?_eq_getElem h2) (by omega)
    have hw : IntKind.i64.wrap ((k : Int) - 1 + 1) = (k : Int) := by rw [fT (by omega) (by omega)]; omega
    have hb : (fun s : Int × Int => bW (fun st y0 => (iV y0 st b).bind fun o => some (o.2, o.1)) (a.take n) (n : Nat) s.1 s.2) ((k : Int) - 1, (k : Int)) =
        some (if a[k] = b[k] then .inl ((k : Int), ((k + 1 : Nat) : Int)) else .inr (.inr ((k : Int), (k : Int)))) := by
      show bW _ _ _ _ _ = _
      simp only [bW, d1, cond_true, hlt, bD d2, d3, d4, iV, hw, bD e2, e3, veq, Option.bind_some]
      by_cases h : a[k] = b[k] <;> simp [h]
    have ea : a.drop k = a[k] :: a.drop (k + 1) := List.drop_eq_getElem_cons h1
    have eb : b.drop k = b[k] :: b.drop (k + 1) := List.drop_eq_getElem_cons h2
    by_cases h : a[k] = b[k]
    · rw [if_pos h] at hb
      obtain ⟨x, e, hx⟩ := TY hl hlb n hn m (k + 1) (by omega) (by omega)
      have hc : iY (a.drop k) (b.drop k) = iY (a.drop (k + 1)) (b.drop (k + 1)) := by
        rw [ea, eb]; unfold iY; rw [kZ, if_pos h]
      refine ⟨x, ?_, by rw [hc]; exact hx⟩
      rw [eG hb]
      rw [show ((k + 1 : Nat) : Int) - 1 = (k : Int) by omega] at e
      exact e
    · rw [if_neg h] at hb
      refine ⟨_, cO hb, .inr ⟨k, rfl, h1, h2, ?_⟩⟩
      rw [ea, eb]; unfold iY; rw [kZ, if_neg h]
      simp [List.getD_eq_getElem?_getD, h1, h2]

theorem NC (a b : List aF) : pQ a b = some (if mU a && mU b then iY a b else 0) := by
  unfold pQ
  rw [AL]
  simp only [Option.bind_some]
  cases ha : mU a
  · simp [cV]
  · simp only [Bool.not_true, Bool.not_false, cV, cond_true, AL, Option.bind_some, Bool.false_or]
    cases hb : mU b
    · simp
    · obtain ⟨la, ma⟩ := LY ha
      obtain ⟨lb, mb⟩ := LY hb
      have hif : (if ((List.length b : Nat) : Int) < ((List.length a : Nat) : Int) then ((List.length b : Nat) : Int) else ((List.length a : Nat) : Int)) = ((min a.length b.length : Nat) : Int) := by split <;> omega
      have hlt : (a.take (min a.length b.length)).length = min a.length b.length := by rw [List.length_take]; omega
      simp only [Bool.not_true, cond_false, hif, Int.toNat_natCast, tJ, Option.bind_some, eX, eM, hlt, Bool.and_self, if_true]
      rw [bD ⟨by omega, by omega⟩]
      obtain ⟨x, e, hx⟩ := TY (a := a) (b := b) la lb _ rfl _ 0 rfl (Nat.zero_le _)
      have e' : lp (fun s : Int × Int => bW (fun st y0 => (iV y0 st b).bind fun o => some (o.2, o.1)) (a.take (min a.length b.length)) (min a.length b.length : Nat) s.1 s.2) ((-1 : Int), (0 : Int)) = some x := e
      rw [e']
      simp only [List.drop_zero] at hx
      rcases hx with ⟨sg, rfl, h⟩ | ⟨i, rfl, h1, h2, h⟩
      · simp [dI, NS, h]
      · have hi : decide ((i : Int) < 0) = false := by simp
        simp only [Option.bind_some, Sum.elim_inr, hi, cond_false, Int.toNat_natCast]
        rw [bD ⟨by omega, by omega⟩, bD ⟨by omega, by omega⟩]
        have g1 : a.getD i default ∈ a := by simp [List.getD_eq_getElem?_getD, h1]
        have g2 : b.getD i default ∈ b := by simp [List.getD_eq_getElem?_getD, h2]
        rw [YE (ma _ g1) (mb _ g2), h]
        simp only [Option.bind_some]

end Go.Abs
namespace Go.Abs
open Go
def jE (e : aC) : aB := ⟨e.At, e.Net⟩

def gA (r : List aF) (f : List aB) : List aC → List (List aF × List aB)
  | [] => [(r, f)]
  | e :: l => if e.Row = r then gA r (f ++ [jE e]) l else (r, f) :: gA e.Row [jE e] l

def groups : List aC → List (List aF × List aB)
  | [] => []
  | e :: l => gA e.Row [jE e] l

def itG {σ : Type} (y : σ → List aF → List aB → Option (σ × Bool)) : List (List aF × List aB) → σ → Option σ
  | [], s => some s
  | g :: gs, s => (y s g.1 g.2).bind fun x => if x.2 then itG y gs x.1 else some x.1

def okL (l : List aC) : Prop := l.length ≤ 3518437208783 ∧ ∀ e ∈ l, e.Row.length ≤ 4398046510976

theorem EN {r : List aF} (h : r.length ≤ 4398046510976) : rL r = some r := by
  unfold rL
  rw [bD ⟨by omega, by omega, by omega⟩, bD (by simp only [List.length_nil, Nat.zero_add]; omega)]
  rfl

theorem LF {σ : Type} {y : σ → List aF → List aB → Option (σ × Bool)} {l : List aC} (hl : okL l) (row : List aF) (sg : σ) : ∀ (r : List aC) (k : Nat) (f : List aB), l.drop k = r → k ≤ l.length → f.length ≤ k →
    ∃ k' f', k ≤ k' ∧ k' ≤ l.length ∧ f'.length ≤ k' ∧ lp (fun s : σ × Int × List aB => gT y l row s.1 s.2.1 s.2.2) (sg, (k : Int), f) = some (sg, ((k' : Nat) : Int), f') ∧
      gA row f r = (row, f') :: groups (l.drop k') ∧ (∀ e r', r = e :: r' → e.Row = row → k < k')
  | [], k, f, hd, hk, hf => by
    have : k = l.length := by
      have := congrArg List.length hd
      simp only [List.length_drop, List.length_nil] at this; omega
    subst this
    refine ⟨l.length, f, Nat.le_refl _, Nat.le_refl _, hf, cO ?_, by simp [gA, groups], fun e r' h => by cases h⟩
    show gT _ _ _ _ _ _ = _
    simp only [gT, jB, cV, cond_false, Option.bind_some, Bool.false_and]
    exact bD (fun h => by cases h)
  | a :: r, k, f, hd, hk, hf => by
    obtain ⟨h1, h2⟩ := drop_cons hd
    have hlt : k < l.length := (List.getElem?_eq_some_iff.1 h1).1
    obtain ⟨hll, hlr⟩ := hl
    obtain ⟨d1, d2, d3, d4⟩ := idx h1 (by omega)
    have har := hlr a (List.mem_of_getElem? h1)
    have hb : (fun s : σ × Int × List aB => gT y l row s.1 s.2.1 s.2.2) (sg, (k : Int), f) = some (if a.Row = row then .inl (sg, ((k + 1 : Nat) : Int), f ++ [jE a]) else .inr (sg, (k : Int), f)) := by
      show gT _ _ _ _ _ _ = _
      simp only [gT, d1, d3, d4, cV, cond_true, EV a.Row row (by omega), Option.bind_some, Bool.true_and]
      rw [bD (fun _ => d2)]
      by_cases e : a.Row = row
      · simp only [e, decide_true, cond_true, if_true]
        rw [bD d2, bD d2, bD (by simp only [List.length_cons, List.length_nil]; omega)]
        rfl
      · simp [e]
    by_cases e : a.Row = row
    · rw [if_pos e] at hb
      obtain ⟨k', f', g1, g2, g3, g4, g5, _⟩ := LF ⟨hll, hlr⟩ row sg r (k + 1) (f ++ [jE a]) h2 (by omega) (by simp; omega) (y := y)
      refine ⟨k', f', by omega, g2, g3, by rw [eG hb]; exact g4, by simp [gA, e, g5], fun _ _ _ _ => by omega⟩
    · rw [if_neg e] at hb
      refine ⟨k, f, Nat.le_refl _, hk, hf, cO hb, ?_, fun b r' h hr => by cases h; exact absurd hr e⟩
      rw [hd]; simp [gA, e, groups]

theorem VH {σ : Type} {y : σ → List aF → List aB → Option (σ × Bool)} {l : List aC} (hl : okL l) : ∀ (m k : Nat) (sg s' : σ), l.length - k ≤ m → k ≤ l.length → itG y (groups (l.drop k)) sg = some s' →
    ∃ x, lp (fun s : σ × Int => fO y l s.1 s.2) (sg, (k : Int)) = some x ∧ Sum.elim id id x = s' := by
  have stop : ∀ (sg s' : σ), itG y (groups (l.drop l.length)) sg = some s' → ∃ x, lp (fun s : σ × Int => fO y l s.1 s.2) (sg, ((l.length : Nat) : Int)) = some x ∧ Sum.elim id id x = s' := by
    intro sg s' h
    rw [List.drop_length] at h
    simp only [groups, itG, Option.some.injEq] at h
    refine ⟨.inl sg, cO ?_, h⟩
    show fO _ _ _ _ = _
    simp only [fO, jB, cond_false]
  intro m
  induction m with
  | zero =>
    intro k sg s' hm hk h
    have : k = l.length := by omega
    subst this; exact stop sg s' h
  | succ m ih =>
    intro k sg s' hm hk h
    by_cases he : k = l.length
    · subst he; exact stop sg s' h
    · have hlt : k < l.length := by omega
      have hd : l.drop k = l[k] :: l.drop (k + 1) := List.drop_eq_getElem_cons hlt
      obtain ⟨d1, d2, d3, d4⟩ := idx (List.getElem?_eq_getElem hlt) (by have := hl.1; omega)
      obtain ⟨k', f', g1, g2, g3, g4, g5, g6⟩ := LF hl l[k].Row sg (l.drop k) k [] rfl hk (by simp) (y := y)
      have hk' := g6 _ _ hd rfl
      have hg : groups (l.drop k) = (l[k].Row, f') :: groups (l.drop k') := by
        rw [← g5, hd]; simp [groups, gA]
      rw [hg] at h
      simp only [itG] at h
      obtain ⟨x, hx, h⟩ := aV h
      have hrow := hl.2 _ (List.getElem_mem hlt)
      have hb : (fun s : σ × Int => fO y l s.1 s.2) (sg, (k : Int)) = some (if x.2 then .inl (x.1, ((k' : Nat) : Int)) else .inr (.inr x.1)) := by
        show fO _ _ _ _ = _
        simp only [fO, d1, cond_true, bD d2, d3, rM, g4, Option.bind_some, pH, EN hrow, hx]
        cases x.2 <;> simp
      cases hx2 : x.2
      · rw [hx2] at hb h
        simp only [Bool.false_eq_true, if_false, Option.some.injEq] at hb h
        exact ⟨_, cO hb, h⟩
      · rw [hx2] at hb h
        simp only [if_true] at hb h
        obtain ⟨z, hz1, hz2⟩ := ih k' x.1 s' (by omega) g2 h
        exact ⟨z, by rw [eG hb]; exact hz1, hz2⟩

theorem MJ {σ : Type} {y : σ → List aF → List aB → Option (σ × Bool)} {l : List aC} (hl : okL l) {s s' : σ} (h : itG y (groups l) s = some s') : mH y l s = some s' := by
  unfold mH rJ
  obtain ⟨x, h1, h2⟩ := VH hl l.length 0 s s' (by omega) (Nat.zero_le _) (by simpa using h)
  simp only [Int.natCast_zero] at h1
  rw [h1]
  cases x <;> simpa using h2

def ahd (last : Option (List aF)) (r : List aF) : Bool := match last with
  | none => true
  | some q => decide (iY q r < 0)

def wL (p : List aB → Bool) : Option (List aF) → List (List aF × List aB) → Bool
  | _, [] => true
  | last, g :: gs => (mU g.1 && ahd last g.1 && p g.2) && wL p (some g.1) gs

theorem UR {holds : List aB → Option Bool} {p : List aB → Bool} (hp : ∀ f, holds f = some (p f)) (c : List aC) (t : Bool) : ∀ (gs : List (List aF × List aB)) (last : List aF) (b : Bool), (b = true → mU last = true) →
    ∃ x, itG (fun st r f => rnd (fun (s : Bool × (List aF) × Bool) => oZ holds c s.1 s.2.1 s.2.2 r f) st) gs (.inl (t, last, b)) = some x ∧
      (if wL p (if b then some last else none) gs then ∃ u, x = .inl (t, u) else ∃ u, x = .inr (false, u))
  | [], last, b, _ => ⟨_, rfl, by simp [wL]⟩
  | g :: gs, last, b, hb => by
    have hy : oZ holds c t last b g.1 g.2 = some (if mU g.1 && ahd (if b then some last else none) g.1 && p g.2 then .inl (t, g.1, true) else .inr (false, last, b)) := by
      unfold oZ
      simp only [AL, Option.bind_some, NC, hp]
      cases hm : mU g.1
      · simp [cV]
      · cases b
        · cases h2 : p g.2 <;> simp [cV, ahd, h2]
        · have hl := hb rfl
          by_cases h1 : iY last g.1 < 0
          · have h1' : ¬ (0 ≤ iY last g.1) := by omega
            cases h2 : p g.2 <;> simp [cV, ahd, h2, hl, h1, h1']
          · have h1' : 0 ≤ iY last g.1 := by omega
            simp [cV, ahd, hl, h1, h1']
    cases hc : (mU g.1 && ahd (if b then some last else none) g.1 && p g.2)
    · rw [hc] at hy
      simp only [itG, rnd, hy, Option.bind_some, wL, hc]
      exact ⟨.inr (false, last, b), by simp, by simp⟩
    · rw [hc] at hy
      simp only [itG, rnd, hy, Option.bind_some, wL, hc]
      have hm : mU g.1 = true := by simp only [Bool.and_eq_true] at hc; exact hc.1.1
      obtain ⟨x, h1, h2⟩ := UR hp c t gs g.1 true (fun _ => hm)
      refine ⟨x, ?_, ?_⟩
      · simpa [rnd] using h1
      · simpa using h2

theorem UB {l : List aC} (hl : okL l) {holds : List aB → Option Bool} {p : List aB → Bool} (hp : ∀ f, holds f = some (p f)) : sV l holds = some (decide (l.length ≤ 4096) && wL p none (groups l)) := by
  unfold sV
  by_cases h : l.length ≤ 4096
  · have h1 : decide ((4096 : Int) < ((l.length : Nat) : Int)) = false := by simp; omega
    rw [h1, cond_false]
    simp only [oQ, Option.bind_some, xW]
    obtain ⟨x, e1, e2⟩ := UR hp l false (groups l) [] false (fun h => by cases h)
    rw [MJ hl e1]
    simp only [Bool.false_eq_true, if_false] at e2
    simp only [h, decide_true, Bool.true_and]
    cases hc : wL p none (groups l)
    · rw [hc] at e2
      simp only [Bool.false_eq_true, if_false] at e2
      obtain ⟨u, rfl⟩ := e2
      rfl
    · rw [hc] at e2
      simp only [if_true] at e2
      obtain ⟨u, rfl⟩ := e2
      rfl
  · have h1 : decide ((4096 : Int) < ((l.length : Nat) : Int)) = true := by simp; omega
    rw [h1, cond_true]
    simp [h]

def nY (l : List aC) : Bool := decide (l.length ≤ 4096) && wL fN none (groups l)

theorem UI {l : List aC} (hl : okL l) : uS l = some (nY l) := by
  unfold uS
  rw [UB hl (p := fN) (fun f => JZ f)]; rfl

def LU (f : List aB) : Bool := fN f && decide (0 ≤ DC f)

def rV (l : List aC) : Bool := decide (l.length ≤ 4096) && wL LU none (groups l)

theorem XZ {l : List aC} (hl : okL l) : uI l = some (rV l) := by
  unfold uI
  rw [UB hl (p := LU) (fun f => by
    unfold qW LU
    rw [JZ]
    cases h : fN f <;> simp [cV, ZR, h])]
  rfl

def gV (r : List aF) (f : List aB) : List aC := f.map fun j => ⟨r, j.At, j.Net⟩

theorem put_eq {out : List aC} {r : List aF} {f : List aB} (hr : r.length ≤ 4398046510976) (hl : out.length + f.length ≤ 1099511627776) : xT out r f = some (out ++ gV r f) := by
  unfold xT yX
  rw [uU (l := f) (body := fun s : List aC × Int => oP r f (f.length : Nat) s.1 s.2) (fun o i => (o, i)) (fun o t => o ++ gV r t) (fun o t => o.length + t.length ≤ 1099511627776) out ?_ ?_ hl]
  · rfl
  · intro i a t o ha hi
    left
    obtain ⟨d1, d2, d3, d4⟩ := idx ha (by have := (List.getElem?_eq_some_iff.1 ha).1; omega)
    simp only [List.length_cons] at hi
    refine ⟨o ++ [⟨r, a.At, a.Net⟩], ?_, by simp; omega, by simp [gV]⟩
    show oP _ _ _ _ _ = _
    simp only [oP, d1, cond_true, bD d2, d3, d4, EN hr, Option.bind_some]
    exact bD (by simp only [List.length_cons, List.length_nil]; omega)
  · intro o _
    show oP _ _ _ _ _ = _
    simp only [oP, jB, cond_false]
    simp [gV]

def qX (by1 : List aB → List aB × Int) : List (List aF × List aB) → List aC → List aC × Int
  | [], out => (out, 0)
  | g :: gs, out => if (by1 g.2).2 ≠ 0 then ([], (by1 g.2).2) else if 4096 < (out ++ gV g.1 (by1 g.2).1).length then ([], 7) else qX by1 gs (out ++ gV g.1 (by1 g.2).1)

theorem MY {by0 : List aB → Option (List aB × Int)} {by1 : List aB → List aB × Int} (c : List aC) : ∀ (gs : List (List aF × List aB)) (out : List aC), out.length ≤ 4096 → (∀ g ∈ gs, by0 g.2 = some (by1 g.2) ∧ (by1 g.2).1.length ≤ 1024 ∧ g.1.length ≤ 4398046510976) →
    ∃ x, itG (fun st r f => rnd (fun (s : (List aC) × Int × List aC) => nC by0 c s.1 s.2.1 s.2.2 r f) st) gs (.inl ([], 0, out)) = some x ∧ Sum.elim (fun s : (List aC) × Int × List aC => (s.2.2, (0 : Int))) (fun s => (s.1, s.2.1)) x = qX by1 gs out
  | [], out, _, _ => ⟨_, rfl, rfl⟩
  | g :: gs, out, ho, hg => by
    obtain ⟨h1, h2, h3⟩ := hg g (by simp)
    have hy : nC by0 c [] 0 out g.1 g.2 = some (if (by1 g.2).2 ≠ 0 then .inr ([], (by1 g.2).2, out) else if 4096 < (out ++ gV g.1 (by1 g.2).1).length then .inr ([], 7, out ++ gV g.1 (by1 g.2).1) else .inl ([], 0, out ++ gV g.1 (by1 g.2).1)) := by
      unfold nC
      simp only [h1, Option.bind_some, put_eq h3 (show out.length + (by1 g.2).1.length ≤ 1099511627776 by omega)]
      by_cases e1 : (by1 g.2).2 = 0
      · by_cases e2 : 4096 < (out ++ gV g.1 (by1 g.2).1).length
        · have e2' : (4096 : Int) < (((out ++ gV g.1 (by1 g.2).1).length : Nat) : Int) := by omega
          simp only [e1, e2, e2', decide_true, Bool.not_true, cond_false, cond_true, ne_eq, not_true_eq_false, if_false, if_true]
        · have e2' : ¬ (4096 : Int) < (((out ++ gV g.1 (by1 g.2).1).length : Nat) : Int) := by omega
          simp only [e1, e2, e2', decide_true, decide_false, Bool.not_true, cond_false, ne_eq, not_true_eq_false, if_false]
      · simp only [e1, decide_false, Bool.not_false, cond_true, ne_eq, not_false_eq_true, if_true]
    simp only [itG, rnd, hy, Option.bind_some, qX]
    by_cases e1 : (by1 g.2).2 ≠ 0
    · rw [if_pos e1, if_pos e1]; exact ⟨_, rfl, rfl⟩
    · rw [if_neg e1, if_neg e1]
      by_cases e2 : 4096 < (out ++ gV g.1 (by1 g.2).1).length
      · rw [if_pos e2, if_pos e2]; exact ⟨_, rfl, rfl⟩
      · rw [if_neg e2, if_neg e2]
        exact MY c gs _ (by omega) (fun q hq => hg q (by simp [hq]))

theorem YY {l : List aC} (hl : okL l) {by0 : List aB → Option (List aB × Int)} {by1 : List aB → List aB × Int} (hb : ∀ g ∈ groups l, by0 g.2 = some (by1 g.2) ∧ (by1 g.2).1.length ≤ 1024 ∧ g.1.length ≤ 4398046510976) : sO l by0 = some (qX by1 (groups l) []) := by
  unfold sO
  simp only [oQ, Option.bind_some, uP]
  obtain ⟨x, e1, e2⟩ := MY (by0 := by0) (by1 := by1) l (groups l) [] (by simp) hb
  rw [MJ hl e1]
  cases x <;> simpa using e2

def flat (gs : List (List aF × List aB)) : List aC := gs.flatMap fun g => gV g.1 g.2

theorem LR : ∀ (l : List aC) (r : List aF) (f : List aB), flat (gA r f l) = gV r f ++ l
  | [], r, f => by simp [gA, flat]
  | e :: l, r, f => by
    unfold gA
    split
    · rename_i h
      rw [LR l r]
      simp [gV, jE, ← h]
    · have := LR l e.Row [jE e]
      simp only [flat, List.flatMap_cons] at this ⊢
      rw [this]
      simp [gV, jE]

theorem vL (l : List aC) : flat (groups l) = l := by
  cases l with
  | nil => rfl
  | cons e l => unfold groups; rw [LR]; simp [gV, jE]

theorem RT {r : List aF} : ∀ {l : List aC} {f : List aB} {g : List aF × List aB}, g ∈ gA r f l → f ≠ [] → g.2 ≠ [] ∧ (g.1 = r ∨ ∃ e ∈ l, g.1 = e.Row)
  | [], f, g, h, hf => by simp only [gA, List.mem_singleton] at h; subst h; exact ⟨hf, .inl rfl⟩
  | e :: l, f, g, h, hf => by
    unfold gA at h
    split at h
    · obtain ⟨h1, h2⟩ := RT h (by simp)
      exact ⟨h1, h2.imp id fun ⟨x, hx, hx'⟩ => ⟨x, by simp [hx], hx'⟩⟩
    · rcases List.mem_cons.1 h with rfl | h
      · exact ⟨hf, .inl rfl⟩
      · obtain ⟨h1, h2⟩ := RT (r := e.Row) h (by simp)
        refine ⟨h1, .inr ?_⟩
        rcases h2 with h2 | ⟨x, hx, hx'⟩
        · exact ⟨e, by simp, h2⟩
        · exact ⟨x, by simp [hx], hx'⟩

theorem AD {l : List aC} {g : List aF × List aB} (h : g ∈ groups l) : g.2 ≠ [] ∧ ∃ e ∈ l, g.1 = e.Row := by
  cases l with
  | nil => simp [groups] at h
  | cons e l =>
    obtain ⟨h1, h2⟩ := RT h (by simp)
    refine ⟨h1, ?_⟩
    rcases h2 with h2 | ⟨x, hx, hx'⟩
    · exact ⟨e, by simp, h2⟩
    · exact ⟨x, by simp [hx], hx'⟩

end Go.Abs
namespace Go.Abs
open Go
def bZ (l : List aC) (r : List aF) : List aB := (l.filter fun e => decide (e.Row = r)).map jE

theorem oS (a b : List aC) (r : List aF) : bZ (a ++ b) r = bZ a r ++ bZ b r := by simp [bZ]

theorem OB (q : List aF) (f : List aB) (r : List aF) : bZ (gV q f) r = if q = r then f else [] := by
  induction f with
  | nil => simp [bZ, gV]
  | cons j f ih =>
    have h1 : gV q (j :: f) = [⟨q, j.At, j.Net⟩] ++ gV q f := rfl
    rw [h1, oS, ih]
    by_cases h : q = r <;> simp [bZ, jE, h]

def look : List (List aF × List aB) → List aF → List aB
  | [], _ => []
  | g :: gs, r => if g.1 = r then g.2 else look gs r

theorem oN (g : List aF × List aB) (gs : List (List aF × List aB)) (r : List aF) : look (g :: gs) r = if g.1 = r then g.2 else look gs r := rfl

abbrev ltG (a b : List aF × List aB) : Prop := iY a.1 b.1 < 0

abbrev rO (gs : List (List aF × List aB)) : Prop := gs.Pairwise ltG

abbrev Full (gs : List (List aF × List aB)) : Prop := ∀ g ∈ gs, g.2 ≠ []

theorem mE {a : List aF} : ¬ iY a a < 0 := by rw [(jF.eq a a).2 rfl]; omega

theorem uD : ∀ {gs : List (List aF × List aB)} {r : List aF}, (∀ g ∈ gs, g.1 ≠ r) → look gs r = []
  | [], _, _ => rfl
  | g :: gs, r, h => by
    rw [oN]
    rw [if_neg (h g (by simp))]
    exact uD fun q hq => h q (by simp [hq])

theorem AJ (gs : List (List aF × List aB)) (r : List aF) : (look gs r = [] ∧ ∀ g ∈ gs, g.1 ≠ r) ∨ ∃ g ∈ gs, g.1 = r ∧ look gs r = g.2 := by
  induction gs with
  | nil => exact .inl ⟨rfl, by simp⟩
  | cons g gs ih =>
    rw [oN]
    by_cases h : g.1 = r
    · rw [if_pos h]; exact .inr ⟨g, by simp, h, rfl⟩
    · rw [if_neg h]
      rcases ih with ⟨h1, h2⟩ | ⟨q, hq, h1, h2⟩
      · refine .inl ⟨h1, fun q hq => ?_⟩
        rcases List.mem_cons.1 hq with rfl | hq
        · exact h
        · exact h2 q hq
      · exact .inr ⟨q, by simp [hq], h1, h2⟩

theorem tT {gs : List (List aF × List aB)} (hs : rO gs) {g : List aF × List aB} (hg : g ∈ gs) : look gs g.1 = g.2 := by
  induction gs with
  | nil => simp at hg
  | cons q gs ih =>
    have hs' := List.pairwise_cons.1 hs
    rw [oN]
    rcases List.mem_cons.1 hg with rfl | hg
    · rw [if_pos rfl]
    · rw [if_neg (fun e => by have := hs'.1 g hg; simp only [ltG, e] at this; exact mE this)]
      exact ih hs'.2 hg

theorem tO (g : List aF × List aB) (gs : List (List aF × List aB)) : flat (g :: gs) = gV g.1 g.2 ++ flat gs := rfl

theorem qZ : ∀ {gs : List (List aF × List aB)}, rO gs → ∀ r, bZ (flat gs) r = look gs r
  | [], _, r => rfl
  | g :: gs, hs, r => by
    have hs' := List.pairwise_cons.1 hs
    rw [tO, oS, OB, qZ hs'.2, oN]
    by_cases h : g.1 = r
    · rw [if_pos h, if_pos h, uD, List.append_nil]
      intro q hq e
      have := hs'.1 q hq
      simp only [ltG, h, e] at this; exact mE this
    · rw [if_neg h, if_neg h]; rfl

theorem VA : ∀ {gs hs : List (List aF × List aB)}, rO gs → rO hs → Full gs → Full hs → (∀ r, look gs r = look hs r) → gs = hs
  | [], [], _, _, _, _, _ => rfl
  | [], h :: hs, _, _, _, fh, he => by
    have := he h.1
    simp only [oN, look, if_true] at this
    exact absurd this.symm (fh h (by simp))
  | g :: gs, [], _, _, fg, _, he => by
    have := he g.1
    simp only [oN, look, if_true] at this
    exact absurd this (fg g (by simp))
  | g :: gs, h :: hs, sg, sh, fg, fh, he => by
    have sg' := List.pairwise_cons.1 sg
    have sh' := List.pairwise_cons.1 sh
    by_cases e : g.1 = h.1
    · have h2 := he g.1
      simp only [look, if_true, if_pos e.symm] at h2
      have ht : gs = hs := VA sg'.2 sh'.2 (fun q hq => fg q (by simp [hq])) (fun q hq => fh q (by simp [hq])) fun r => by
        by_cases hr : g.1 = r
        · subst hr
          rw [uD (gs := gs), uD (gs := hs)]
          · intro q hq e'; have := sh'.1 q hq; simp only [ltG, ← e, e'] at this; exact mE this
          · intro q hq e'; have := sg'.1 q hq; simp only [ltG, e'] at this; exact mE this
        · have := he r
          simp only [look, if_neg hr, if_neg (fun x => hr (e.trans x))] at this
          exact this
      rw [ht]
      obtain ⟨g1, g2⟩ := g
      obtain ⟨h1, h3⟩ := h
      simp only at e h2
      rw [e, h2]
    · exfalso
      have hne : iY g.1 h.1 ≠ 0 := fun x => e ((jF.eq _ _).1 x)
      by_cases hlt : iY g.1 h.1 < 0
      · have h2 := he g.1
        rw [tT sg (by simp), uD] at h2
        · exact fg g (by simp) h2
        · intro q hq e'
          rcases List.mem_cons.1 hq with rfl | hq
          · exact e e'.symm
          · have := jF.trans _ _ _ hlt (sh'.1 q hq)
            rw [e'] at this; exact mE this
      · have hlt' : iY h.1 g.1 < 0 := (jF.anti _ _).2 (by omega)
        have h2 := he h.1
        rw [tT sh (by simp), uD] at h2
        · exact fh h (by simp) h2.symm
        · intro q hq e'
          rcases List.mem_cons.1 hq with rfl | hq
          · exact e e'
          · have := jF.trans _ _ _ hlt' (sg'.1 q hq)
            rw [e'] at this; exact mE this

theorem uN {p : List aB → Bool} : ∀ {gs : List (List aF × List aB)} {last : Option (List aF)}, wL p last gs = true ↔ (∀ g ∈ gs, mU g.1 = true ∧ p g.2 = true) ∧ rO gs ∧ (∀ q, last = some q → ∀ g ∈ gs, iY q g.1 < 0)
  | [], last => by simp [wL]
  | g :: gs, last => by
    unfold wL
    simp only [Bool.and_eq_true, uN (gs := gs), List.mem_cons, List.pairwise_cons]
    constructor
    · rintro ⟨⟨⟨h1, h2⟩, h3⟩, h4, h5, h6⟩
      refine ⟨?_, ⟨fun q hq => h6 _ rfl q hq, h5⟩, ?_⟩
      · rintro q (rfl | hq)
        · exact ⟨h1, h3⟩
        · exact h4 q hq
      · rintro q rfl x (rfl | hx)
        · simpa [ahd] using h2
        · simp only [ahd, decide_eq_true_eq] at h2
          exact jF.trans _ _ _ h2 (h6 _ rfl x hx)
    · rintro ⟨h1, ⟨h2, h3⟩, h4⟩
      refine ⟨⟨⟨(h1 g (.inl rfl)).1, ?_⟩, (h1 g (.inl rfl)).2⟩, fun q hq => h1 q (.inr hq), h3, ?_⟩
      · unfold ahd
        split
        · rfl
        · exact decide_eq_true (h4 _ rfl g (.inl rfl))
      · rintro q hq x hx
        cases hq
        exact h2 x hx

theorem SX (l : List aC) : Full (groups l) := fun _ hg => (AD hg).1

theorem pS {l : List aC} (h : nY l = true) : l.length ≤ 4096 ∧ (∀ g ∈ groups l, mU g.1 = true ∧ fN g.2 = true) ∧ rO (groups l) := by
  simp only [nY, Bool.and_eq_true, decide_eq_true_eq] at h
  obtain ⟨h1, h2, _⟩ := uN.1 h.2
  exact ⟨h.1, h1, h2⟩

theorem XA {l : List aC} (h : nY l = true) (r : List aF) : fN (look (groups l) r) = true := by
  rcases AJ (groups l) r with ⟨h1, _⟩ | ⟨g, hg, _, h1⟩
  · rw [h1]; exact aBl
  · rw [h1]; exact ((pS h).2.1 g hg).2

theorem mG {l : List aC} (h : rO (groups l)) (r : List aF) : look (groups l) r = bZ l r := by
  rw [← qZ h, vL]

theorem LO (r : List aF) (f : List aB) (e : aC) (l : List aC) : gA r f (e :: l) = if e.Row = r then gA r (f ++ [jE e]) l else (r, f) :: gA e.Row [jE e] l := rfl

theorem QN (r : List aF) : ∀ (f2 f : List aB) (l : List aC), gA r f (gV r f2 ++ l) = gA r (f ++ f2) l
  | [], f, l => by simp [gV]
  | j :: f2, f, l => by
    show gA r f (⟨r, j.At, j.Net⟩ :: (gV r f2 ++ l)) = _
    rw [LO, if_pos rfl, QN r f2]
    simp [jE]

theorem NG : ∀ {gs : List (List aF × List aB)}, rO gs → Full gs → groups (flat gs) = gs
  | [], _, _ => rfl
  | (r, f) :: gs, hs, hf => by
    have hs' := List.pairwise_cons.1 hs
    have hne := hf (r, f) (by simp)
    have ih := NG hs'.2 (fun g hg => hf g (by simp [hg]))
    cases f with
    | nil => exact absurd rfl hne
    | cons j f =>
      rw [tO]
      show gA r [jE ⟨r, j.At, j.Net⟩] (gV r f ++ flat gs) = _
      rw [QN]
      have key : ∀ (F : List aB), gA r F (flat gs) = (r, F) :: groups (flat gs) := by
        intro F
        cases gs with
        | nil => rfl
        | cons g gs =>
          obtain ⟨q, f'⟩ := g
          have hq := hf (q, f') (by simp)
          cases f' with
          | nil => exact absurd rfl hq
          | cons j' f' =>
            have hqr : q ≠ r := fun e => by
              have := hs'.1 (q, j' :: f') (by simp)
              simp only [ltG, e] at this; exact mE this
            rw [tO]
            show gA r F (⟨q, j'.At, j'.Net⟩ :: (gV q f' ++ flat gs)) = _
            rw [gA, if_neg hqr]
            rfl
      rw [key, ih]
      rfl

def CL (gs : List (List aF × List aB)) : List (List aF × List aB) := gs.filter fun g => !g.2.isEmpty

theorem xC : ∀ (gs : List (List aF × List aB)), flat (CL gs) = flat gs
  | [] => rfl
  | (r, []) :: gs => by
    have : CL ((r, []) :: gs) = CL gs := rfl
    rw [this, xC gs, tO]; rfl
  | (r, j :: f) :: gs => by
    have : CL ((r, j :: f) :: gs) = (r, j :: f) :: CL gs := rfl
    rw [this, tO, tO, xC gs]

theorem NY (gs : List (List aF × List aB)) : Full (CL gs) := by
  intro g hg
  have := (List.mem_filter.1 hg).2
  intro h; rw [h] at this; simp at this

theorem BS {gs : List (List aF × List aB)} (hs : rO gs) : groups (flat gs) = CL gs := by
  rw [← xC]
  exact NG (hs.filter _) (NY gs)

theorem ZB {gs : List (List aF × List aB)} (hs : rO gs) (r : List aF) : look (groups (flat gs)) r = look gs r := by
  have h1 := qZ (gs := CL gs) (hs.filter _) r
  rw [BS hs, ← h1, ← qZ hs, xC]

theorem XI {gs : List (List aF × List aB)} (hs : rO gs) (hm : ∀ g ∈ gs, mU g.1 = true ∧ fN g.2 = true) (hl : (flat gs).length ≤ 4096) : nY (flat gs) = true := by
  simp only [nY, Bool.and_eq_true, decide_eq_true_eq]
  refine ⟨hl, uN.2 ?_⟩
  rw [BS hs]
  exact ⟨fun g hg => hm g (List.mem_filter.1 hg).1, hs.filter _, by simp⟩

def vE (by1 : List aB → List aB × Int) (gs : List (List aF × List aB)) : List (List aF × List aB) := gs.map fun g => (g.1, (by1 g.2).1)

theorem JC {by1 : List aB → List aB × Int} {gs : List (List aF × List aB)} (hs : rO gs) : rO (vE by1 gs) := by
  rw [rO, vE, List.pairwise_map]; exact hs

theorem HB {by1 : List aB → List aB × Int} (h0 : (by1 []).1 = []) : ∀ (gs : List (List aF × List aB)) (r : List aF), look (vE by1 gs) r = (by1 (look gs r)).1
  | [], r => h0.symm
  | g :: gs, r => by
    show look ((g.1, (by1 g.2).1) :: vE by1 gs) r = _
    rw [oN, oN]
    by_cases h : g.1 = r
    · rw [if_pos h, if_pos h]
    · rw [if_neg h, if_neg h]; exact HB h0 gs r

theorem UX {by1 : List aB → List aB × Int} : ∀ {gs : List (List aF × List aB)} {out : List aC}, out.length ≤ 4096 → (qX by1 gs out).2 = 0 → (∀ g ∈ gs, (by1 g.2).2 = 0) ∧ (qX by1 gs out).1 = out ++ flat (vE by1 gs) ∧ (qX by1 gs out).1.length ≤ 4096
  | [], out, ho, _ => by simp [qX, vE, flat, ho]
  | g :: gs, out, ho, h => by
    unfold qX at h ⊢
    by_cases e1 : (by1 g.2).2 = 0
    · rw [if_neg (by simp [e1])] at h ⊢
      by_cases e2 : 4096 < (out ++ gV g.1 (by1 g.2).1).length
      · rw [if_pos e2] at h; simp at h
      · rw [if_neg e2] at h ⊢
        obtain ⟨h1, h2, h3⟩ := UX (by omega) h
        refine ⟨?_, ?_, h3⟩
        · intro q hq
          rcases List.mem_cons.1 hq with rfl | hq
          · exact e1
          · exact h1 q hq
        · rw [h2]; simp [vE, tO]
    · rw [if_pos e1] at h; exact absurd h e1

theorem RW {by1 : List aB → List aB × Int} : ∀ {gs : List (List aF × List aB)} {out : List aC}, (∀ g ∈ gs, (by1 g.2).2 = 0) → (out ++ flat (vE by1 gs)).length ≤ 4096 → qX by1 gs out = (out ++ flat (vE by1 gs), 0)
  | [], out, _, _ => by simp [qX, vE, flat]
  | g :: gs, out, h, hl => by
    unfold qX
    have hf : flat (vE by1 (g :: gs)) = gV g.1 (by1 g.2).1 ++ flat (vE by1 gs) := rfl
    rw [hf] at hl ⊢
    rw [if_neg (by simp [h g (by simp)]), if_neg (by simp only [List.length_append] at hl ⊢; omega), RW (fun q hq => h q (by simp [hq])) (by simpa using hl)]
    simp

theorem PS {by1 : List aB → List aB × Int} : ∀ {gs : List (List aF × List aB)} {out : List aC}, (qX by1 gs out).2 ≠ 0 → (qX by1 gs out).1 = []
  | [], out, h => by simp [qX] at h
  | g :: gs, out, h => by
    unfold qX at h ⊢
    split
    · rfl
    · rename_i e1
      rw [if_neg e1] at h
      split
      · rfl
      · rename_i e2
        rw [if_neg e2] at h
        exact PS h

theorem FW {l : List aC} (hl : okL l) {g : List aF × List aB} (hg : g ∈ groups l) : g.1.length ≤ 4398046510976 := by
  obtain ⟨_, e, he, h⟩ := AD hg
  rw [h]; exact hl.2 e he

end Go.Abs
namespace Go.Abs
theorem XO : @dL = @mZ aC _ := rfl

theorem WE : @dR = @dV aC _ := rfl

theorem QV (cmp) : ∀ k, @gL cmp k = @dX aC _ cmp k
  | 0 => rfl
  | k + 1 => by
    show dR cmp _ = dV cmp _
    rw [QV cmp k, WE]

theorem YZ : @eF = @oR aC _ := by
  funext d a m b cmp
  unfold eF oR
  simp only [QV]

theorem QA : @eZ = @wZ aC _ := by
  funext d n cmp
  unfold eZ wZ iB yV
  unfold gX mD eR zC
  unfold gW yQ gZ jM
  unfold iI vM hU mB
  unfold eT vJ
  rw [YZ, XO]
  rfl

end Go.Abs
namespace Go.Abs
open Go
theorem HE {l : List aC} {f : aC → Option Bool} {g : aC → Bool} (hl : l.length ≤ 1099511627776) (hf : ∀ x ∈ l, f x = some (g x)) : cR l f = some (l.any g) := by
  unfold cR fL fG
  obtain ⟨x, e, hx⟩ := BB hl hf l 0 rfl (Nat.zero_le _)
  have e' : lp (fun s => fD f l (l.length : Nat) s) 0 = some x := e
  rw [e']
  rcases hx with ⟨rfl, h⟩ | ⟨i, rfl, _, _, h, _⟩
  · simp [dP, h]
  · simp [h]

def unE (e : aC) : Bool := ((!mU e.Row) || (decide ((1048576 : Int) < e.Net))) || (decide (e.Net < (-1048576 : Int)))

def CI (e : aC) : Bool := (decide (e.At < (-1 : Int))) || (decide ((1125899906842624 : Int) < e.At))

def VS (x y : aC) : Int := if iY x.Row y.Row ≠ 0 then iY x.Row y.Row else qD x.At y.At

abbrev okE (x : aC) : Prop := mU x.Row = true

abbrev leE (x y : aC) : Prop := iY x.Row y.Row < 0 ∨ (x.Row = y.Row ∧ x.At ≤ y.At)

theorem or_eq (a b : Int) : uH [a, b] = some (if a ≠ 0 then a else b) := by
  unfold uH wJ
  have w1 : IntKind.i64.wrap (1 : Int) = 1 := by rw [fT] <;> omega
  have w2 : IntKind.i64.wrap (2 : Int) = 2 := by rw [fT] <;> omega
  have b0 : (fun s => gN 0 [a, b] (([a, b] : List Int).length : Nat) s) (0 : Int) = some (if a ≠ 0 then .inr (.inr a) else .inl 1) := by
    show gN _ _ _ _ = _
    unfold gN
    rw [bD ⟨by omega, by simp⟩]
    by_cases h : a = 0 <;> simp [h, w1]
  have b1 : (fun s => gN 0 [a, b] (([a, b] : List Int).length : Nat) s) (1 : Int) = some (if b ≠ 0 then .inr (.inr b) else .inl 2) := by
    show gN _ _ _ _ = _
    unfold gN
    rw [bD ⟨by omega, by simp⟩]
    by_cases h : b = 0 <;> simp [h, w2]
  have b2 : (fun s => gN 0 [a, b] (([a, b] : List Int).length : Nat) s) (2 : Int) = some (.inr (.inl ())) := by
    show gN _ _ _ _ = _
    unfold gN
    simp
  by_cases h : a = 0
  · rw [if_neg (by simp [h])] at b0
    rw [eG b0]
    by_cases h2 : b = 0
    · rw [if_neg (by simp [h2])] at b1
      rw [eG b1, cO b2]
      simp [rX, h, h2]
    · rw [if_pos h2] at b1
      rw [cO b1]
      simp [h]
  · rw [if_pos h] at b0
    rw [cO b0]
    simp [h]

theorem aBa {x y : aC} (hx : okE x) (hy : okE y) : mN x y = some (VS x y) := by
  unfold mN VS
  rw [NC, hx, hy]
  simp only [Bool.and_self, if_true, Option.bind_some, NS, or_eq]

theorem aA2 (x y : aC) : VS x y < 0 ↔ ¬ leE y x := by
  unfold VS leE
  have ha := jF.anti x.Row y.Row
  have hb := jF.anti y.Row x.Row
  have he := jF.eq x.Row y.Row
  by_cases h : iY x.Row y.Row = 0
  · rw [if_neg (by simp [h])]
    have e := he.1 h
    have : ¬ iY y.Row x.Row < 0 := by rw [e]; exact mE
    unfold qD
    constructor
    · intro h1 h2
      rcases h2 with h2 | ⟨_, h2⟩
      · exact this h2
      · split at h1
        · omega
        · split at h1 <;> omega
    · intro h1
      have : ¬ y.At ≤ x.At := fun h2 => h1 (.inr ⟨e.symm, h2⟩)
      rw [if_pos (by omega)]; omega
  · rw [if_pos h]
    have hne : y.Row ≠ x.Row := fun e => h (he.2 e.symm)
    constructor
    · intro h1 h2
      rcases h2 with h2 | ⟨h2, _⟩
      · have := hb.1 h2; omega
      · exact hne h2
    · intro h1
      have : ¬ iY y.Row x.Row < 0 := fun h2 => h1 (.inl h2)
      rw [hb] at this
      omega

theorem XP (x y : aC) : leE x y ∨ leE y x := by
  unfold leE
  by_cases h : iY x.Row y.Row = 0
  · have e := (jF.eq _ _).1 h
    rcases Int.le_total x.At y.At with h1 | h1
    · exact .inl (.inr ⟨e, h1⟩)
    · exact .inr (.inr ⟨e.symm, h1⟩)
  · by_cases h1 : iY x.Row y.Row < 0
    · exact .inl (.inl h1)
    · exact .inr (.inl ((jF.anti _ _).2 (by omega)))

theorem XN {x y z : aC} (h1 : leE x y) (h2 : leE y z) : leE x z := by
  rcases h1 with h1 | ⟨e1, h1⟩ <;> rcases h2 with h2 | ⟨e2, h2⟩
  · exact .inl (jF.trans _ _ _ h1 h2)
  · exact .inl (e2 ▸ h1)
  · exact .inl (e1.symm ▸ h2)
  · exact .inr ⟨e1.trans e2, by omega⟩

theorem aCd : Cmp okE leE (fun y0 y1 => mN y0 y1) where
  ans x y hx hy := ⟨_, aBa hx hy, aA2 x y⟩
  trans x y z _ _ _ h1 h2 := XN h1 h2
  total x y _ _ := XP x y

theorem aCg {l : List aC} (hl : l.length ≤ 1099511627776) (ho : ∀ e ∈ l, okE e) : ∃ r, r.Perm l ∧ Srt leE r ∧ cX l (fun y0 y1 => mN y0 y1) = some r := by
  obtain ⟨r, r1, r2, r3⟩ := NU aCd (d := l) ho hl
  refine ⟨r, r1, r2, ?_⟩
  unfold cX
  rw [QA, r3]; rfl

theorem PW : ∀ {l : List aC} {r : List aF} {f : List aB}, Srt leE l → (∀ e ∈ l, e.Row = r ∨ iY r e.Row < 0) → rO (gA r f l) ∧ ∀ g ∈ gA r f l, g.1 = r ∨ iY r g.1 < 0
  | [], r, f, _, _ => by simp [gA]
  | e :: l, r, f, hs, hr => by
    have hs' := List.pairwise_cons.1 hs
    rw [LO]
    by_cases h : e.Row = r
    · rw [if_pos h]
      exact PW hs'.2 (fun x hx => hr x (by simp [hx]))
    · rw [if_neg h]
      have hlt : iY r e.Row < 0 := (hr e (by simp)).resolve_left h
      obtain ⟨h1, h2⟩ := PW (r := e.Row) (f := [jE e]) hs'.2 (fun x hx => by
        rcases hs'.1 x hx with h | ⟨h, _⟩
        · exact .inr h
        · exact .inl h.symm)
      have key : ∀ g ∈ gA e.Row [jE e] l, iY r g.1 < 0 := fun g hg => by
        rcases h2 g hg with h | h
        · rw [h]; exact hlt
        · exact jF.trans _ _ _ hlt h
      refine ⟨List.pairwise_cons.2 ⟨key, h1⟩, ?_⟩
      intro g hg
      rcases List.mem_cons.1 hg with rfl | hg
      · exact .inl rfl
      · exact .inr (key g hg)

theorem rN {l : List aC} (hs : Srt leE l) : rO (groups l) := by
  cases l with
  | nil => exact List.Pairwise.nil
  | cons e l =>
    have hs' := List.pairwise_cons.1 hs
    exact (PW hs'.2 (fun x hx => by
      rcases hs'.1 x hx with h | ⟨h, _⟩
      · exact .inr h
      · exact .inl h.symm)).1

abbrev DU (rs : List (List aF)) : Prop := rs.Pairwise fun a b => iY a b < 0

def AY (r : List aF) : List (List aF) → List (List aF)
  | [] => [r]
  | x :: xs => if iY x r < 0 then x :: AY r xs else if x = r then x :: xs else r :: x :: xs

def rowsOf (l : List aC) : List (List aF) := l.foldl (fun rs e => AY e.Row rs) []

theorem IZ {r x : List aF} : ∀ {rs : List (List aF)}, x ∈ AY r rs ↔ x = r ∨ x ∈ rs
  | [] => by simp [AY]
  | y :: ys => by
    unfold AY
    split
    · simp only [List.mem_cons, IZ (rs := ys)]
      constructor
      · rintro (h | h | h)
        · exact .inr (.inl h)
        · exact .inl h
        · exact .inr (.inr h)
      · rintro (h | h | h)
        · exact .inr (.inl h)
        · exact .inl h
        · exact .inr (.inr h)
    · split
      · rename_i h; subst h; simp
      · simp

theorem RR {r : List aF} : ∀ {rs : List (List aF)}, DU rs → DU (AY r rs)
  | [], _ => by simp [AY]
  | y :: ys, hs => by
    have hs' := List.pairwise_cons.1 hs
    unfold AY
    split
    · rename_i h
      refine List.pairwise_cons.2 ⟨fun z hz => ?_, RR hs'.2⟩
      rcases IZ.1 hz with rfl | hz
      · exact h
      · exact hs'.1 z hz
    · rename_i h
      split
      · exact hs
      · rename_i hne
        have hlt : iY r y < 0 := by
          have h0 : iY y r ≠ 0 := fun e => hne ((jF.eq _ _).1 e)
          exact (jF.anti _ _).2 (by omega)
        refine List.pairwise_cons.2 ⟨fun z hz => ?_, hs⟩
        rcases List.mem_cons.1 hz with rfl | hz
        · exact hlt
        · exact jF.trans _ _ _ hlt (hs'.1 z hz)

theorem GZ : ∀ (l : List aC) (rs : List (List aF)), DU rs → DU (l.foldl (fun rs e => AY e.Row rs) rs) ∧ ∀ x, x ∈ l.foldl (fun rs e => AY e.Row rs) rs ↔ x ∈ rs ∨ ∃ e ∈ l, e.Row = x
  | [], rs, hs => ⟨hs, by simp⟩
  | e :: l, rs, hs => by
    obtain ⟨h1, h2⟩ := GZ l (AY e.Row rs) (RR hs)
    refine ⟨h1, fun x => ?_⟩
    simp only [List.foldl_cons]
    rw [h2 x, IZ]
    simp only [List.mem_cons, exists_eq_or_imp]
    constructor
    · rintro ((h | h) | h)
      · exact .inr (.inl h.symm)
      · exact .inl h
      · exact .inr (.inr h)
    · rintro (h | h | h)
      · exact .inl (.inr h)
      · exact .inl (.inl h.symm)
      · exact .inr h

theorem ER (l : List aC) : DU (rowsOf l) := (GZ l [] List.Pairwise.nil).1

theorem xJ {l : List aC} {x : List aF} : x ∈ rowsOf l ↔ ∃ e ∈ l, e.Row = x := by
  have := (GZ l [] List.Pairwise.nil).2 x
  simpa [rowsOf] using this

theorem SD : ∀ {a b : List (List aF)}, DU a → DU b → (∀ x, x ∈ a ↔ x ∈ b) → a = b
  | [], [], _, _, _ => rfl
  | [], y :: ys, _, _, h => absurd ((h y).2 (by simp)) (by simp)
  | x :: xs, [], _, _, h => absurd ((h x).1 (by simp)) (by simp)
  | x :: xs, y :: ys, ha, hb, h => by
    have ha' := List.pairwise_cons.1 ha
    have hb' := List.pairwise_cons.1 hb
    have e : x = y := by
      rcases List.mem_cons.1 ((h x).1 (by simp)) with h1 | h1
      · exact h1
      · rcases List.mem_cons.1 ((h y).2 (by simp)) with h2 | h2
        · exact h2.symm
        · exact absurd (jF.trans _ _ _ (hb'.1 x h1) (ha'.1 y h2)) mE
    subst e
    rw [SD ha'.2 hb'.2 fun z => ?_]
    constructor
    · intro hz
      rcases List.mem_cons.1 ((h z).1 (by simp [hz])) with h1 | h1
      · subst h1; exact absurd (ha'.1 z hz) mE
      · exact h1
    · intro hz
      rcases List.mem_cons.1 ((h z).2 (by simp [hz])) with h1 | h1
      · subst h1; exact absurd (hb'.1 z hz) mE
      · exact h1

def tD (l : List aC) : List (List aF × List aB) := (rowsOf l).map fun r => (r, bZ l r)

theorem JM (l : List aC) : rO (tD l) := by
  rw [rO, tD, List.pairwise_map]; exact ER l

theorem SI {l : List aC} {r : List aF} (h : ∀ e ∈ l, e.Row ≠ r) : bZ l r = [] := by
  unfold bZ
  rw [List.map_eq_nil_iff, List.filter_eq_nil_iff]
  intro e he
  simpa using h e he

theorem BN (l : List aC) (r : List aF) : look (tD l) r = bZ l r := by
  rcases AJ (tD l) r with ⟨h1, h2⟩ | ⟨g, hg, h1, h2⟩
  · rw [h1, SI]
    intro e he hr
    have : (r, bZ l r) ∈ tD l := List.mem_map.2 ⟨r, xJ.2 ⟨e, he, hr⟩, rfl⟩
    exact h2 _ this rfl
  · rw [h2]
    obtain ⟨q, _, rfl⟩ := List.mem_map.1 hg
    simp only at h1
    rw [h1]

theorem RM {a b : List aC} (h : a.Perm b) (r : List aF) : (bZ a r).Perm (bZ b r) := (h.filter _).map _

theorem ID {l l' : List aC} (hp : l'.Perm l) (hs : Srt leE l') : (groups l').map (·.1) = rowsOf l := by
  refine SD ?_ (ER l) fun x => ?_
  · rw [DU, List.pairwise_map]; exact rN hs
  · rw [xJ]
    constructor
    · intro h
      obtain ⟨g, hg, rfl⟩ := List.mem_map.1 h
      obtain ⟨_, e, he, h1⟩ := AD hg
      exact ⟨e, hp.mem_iff.1 he, h1.symm⟩
    · rintro ⟨e, he, rfl⟩
      have he' : e ∈ flat (groups l') := by rw [vL]; exact hp.mem_iff.2 he
      obtain ⟨g, hg, h1⟩ := List.mem_flatMap.1 he'
      obtain ⟨j, _, rfl⟩ := List.mem_map.1 h1
      exact List.mem_map.2 ⟨g, hg, rfl⟩

theorem EX {l : List aB} (ht : ∀ j ∈ l, -2 < j.At) : Up (-2) (wP l) :=
  EY (by rw [List.map_map]; simpa [Function.comp_def] using GK ht)

theorem BX {l : List aB} (ht : ∀ j ∈ l, -2 < j.At) {t : Int} (h1 : -2 < t) (h2 : t < 1125899906842624) : val (wP l) t = val l t := by
  have h0 : val l (-2) = 0 := wY fun j hj => ht j hj
  have := FU (F := val l) (GK ht) (fun s t' _ hst hlt hn => BO hst fun j hj hc => hn j.At (IV.2 (Or.inr ⟨j, List.mem_filter.2 ⟨hj, by simp; omega⟩, rfl⟩)) hc) t (by omega) h2
  rw [h0] at this
  unfold wP
  rw [this]; omega

theorem WU {f g : List aB} (h : f.Perm g) (hf : f.any yL = false) : wP f = wP g := by
  have hg : ∀ j ∈ g, -2 < j.At := fun j hj => (yO hf j (h.mem_iff.2 hj)).1
  exact JH (fun j hj => (yO hf j hj).1) (EX hg) fun t h1 h2 => by rw [BX hg h1 h2, QC h]

theorem JE {f g : List aB} (h : f.Perm g) (p : aB → Bool) : f.any p = g.any p := by
  cases h1 : g.any p
  · rw [List.any_eq_false] at h1 ⊢
    exact fun x hx => h1 x (h.mem_iff.1 hx)
  · obtain ⟨x, hx, hp⟩ := List.any_eq_true.1 h1
    exact List.any_eq_true.2 ⟨x, h.mem_iff.2 hx, hp⟩

theorem WQ {f g : List aB} (h : f.Perm g) : jD f = jD g := by
  unfold jD
  rw [JE h sK, JE h yL]
  split
  · rfl
  · split
    · rfl
    · rename_i h2
      rw [WU h (by rw [JE h yL]; simpa using h2)]

theorem XJ (l : List aB) : (jD l).1.length ≤ 1024 := by
  unfold jD
  split
  · simp
  · split
    · simp
    · exact ZQ _

theorem JU {by1 : List aB → List aB × Int} : ∀ {gs hs : List (List aF × List aB)} {out : List aC}, gs.map (fun g => (g.1, by1 g.2)) = hs.map (fun g => (g.1, by1 g.2)) → qX by1 gs out = qX by1 hs out
  | [], [], _, _ => rfl
  | [], _ :: _, _, h => by simp at h
  | _ :: _, [], _, h => by simp at h
  | g :: gs, k :: hs, out, h => by
    simp only [List.map_cons, List.cons.injEq, Prod.mk.injEq] at h
    obtain ⟨⟨h1, h2⟩, h3⟩ := h
    unfold qX
    rw [h1, h2]
    split
    · rfl
    · split
      · rfl
      · exact JU h3

theorem TM {l l' : List aC} (hp : l'.Perm l) (hs : Srt leE l') : (groups l').map (fun g => (g.1, jD g.2)) = (tD l).map (fun g => (g.1, jD g.2)) := by
  have h1 : (groups l').map (fun g => (g.1, jD g.2)) = ((groups l').map (·.1)).map (fun r => (r, jD (bZ l r))) := by
    rw [List.map_map]
    apply List.map_congr_left
    intro g hg
    have hj : g.2 = bZ l' g.1 := by rw [← mG (rN hs), tT (rN hs) hg]
    simp only [Function.comp]
    rw [hj, WQ (RM hp g.1)]
  rw [h1, ID hp hs, tD, List.map_map]
  rfl

def jC (l : List aC) : List aC × Int := if l.any unE then ([], 2) else if l.any CI then ([], 13) else qX jD (tD l) []

theorem LV {l : List aC} (h : l.any unE = false) : ∀ e ∈ l, mU e.Row = true ∧ e.Net ≤ 1048576 ∧ -1048576 ≤ e.Net := by
  intro e he
  have := List.any_eq_false.1 h e he
  simp only [unE, Bool.or_eq_true, not_or, Bool.not_eq_true', decide_eq_true_eq, Bool.not_eq_false, Bool.not_eq_true] at this
  exact ⟨by simpa using this.1.1, by omega, by omega⟩

theorem aAG {l : List aC} (hl : okL l) (hn : l.length ≤ 1099511627776) : vQ l = some (jC l) := by
  unfold vQ jC
  rw [HE (g := unE) hn (fun x _ => by simp [sU, AL, unE])]
  simp only [Option.bind_some]
  cases h1 : l.any unE
  · rw [HE (f := fun y0 => rU y0) (g := CI) hn (fun x _ => rfl)]
    simp only [cond_false, Option.bind_some, Bool.false_eq_true, if_false]
    cases h2 : l.any CI
    · simp only [cond_false, Bool.false_eq_true, if_false]
      have hc : eS l = some l := by unfold eS; exact bD ⟨by omega, by omega⟩
      obtain ⟨r, r1, r2, r3⟩ := aCg hn (fun e he => (LV h1 e he).1)
      rw [hc]
      simp only [Option.bind_some]
      rw [r3]
      simp only [Option.bind_some]
      have hr : okL r := ⟨by rw [r1.length_eq]; exact hl.1, fun e he => hl.2 e (r1.mem_iff.1 he)⟩
      rw [YY hr (by1 := jD) (fun g hg => ⟨by
        unfold sD
        have hgl : g.2.length ≤ 1099511627776 := by
          have h3 : g.2 = bZ r g.1 := by rw [← mG (rN r2), tT (rN r2) hg]
          rw [h3, bZ, List.length_map]
          exact Nat.le_trans (List.length_filter_le _ _) (by rw [r1.length_eq]; exact hn)
        rw [norm_eq hgl]; rfl, XJ _, FW hr hg⟩)]
      simp only [Option.bind_some]
      rw [JU (TM r1 r2)]
    · simp
  · simp

theorem NF : jD [] = ([], 0) := rfl

theorem DW {l : List aC} (h : (jC l).2 = 0) : l.any unE = false ∧ l.any CI = false ∧ (∀ g ∈ tD l, (jD g.2).2 = 0) ∧ (jC l).1 = flat (vE jD (tD l)) ∧ (jC l).1.length ≤ 4096 := by
  unfold jC at h ⊢
  cases h1 : l.any unE
  · rw [h1] at h
    simp only [Bool.false_eq_true, if_false] at h ⊢
    cases h2 : l.any CI
    · rw [h2] at h
      simp only [Bool.false_eq_true, if_false] at h ⊢
      obtain ⟨a, b, c⟩ := UX (by simp) h
      exact ⟨trivial, trivial, a, by simpa using b, c⟩
    · rw [h2] at h; simp at h
  · rw [h1] at h; simp at h

theorem VK {l : List aC} (h : (jC l).2 = 0) (r : List aF) : look (groups (jC l).1) r = (jD (bZ l r)).1 := by
  obtain ⟨_, _, _, h4, _⟩ := DW h
  rw [h4, ZB (JC (JM l)), HB (by rw [NF]), BN]

theorem IM {f : List aB} (h : (jD f).2 = 0) : f.any sK = false ∧ f.any yL = false ∧ fN (wP f) = true ∧ jD f = (wP f, 0) := by
  unfold jD at h ⊢
  cases h1 : f.any sK
  · rw [h1] at h
    simp only [Bool.false_eq_true, if_false] at h ⊢
    cases h2 : f.any yL
    · rw [h2] at h
      simp only [Bool.false_eq_true, if_false] at h ⊢
      unfold told at h ⊢
      cases h3 : fN (wP f)
      · rw [h3] at h; simp at h
      · simp
    · rw [h2] at h; simp at h
  · rw [h1] at h; simp at h

theorem MX {l : List aC} (h : (jC l).2 = 0) (r : List aF) : (jD (bZ l r)).2 = 0 := by
  obtain ⟨_, _, h3, _, _⟩ := DW h
  rcases AJ (tD l) r with ⟨e, _⟩ | ⟨g, hg, _, e⟩
  · rw [BN] at e; rw [e]; rfl
  · rw [BN] at e; rw [e]; exact h3 g hg

theorem NX {l : List aC} (h : (jC l).2 = 0) : nY (jC l).1 = true := by
  obtain ⟨h1, _, h3, h4, h5⟩ := DW h
  rw [h4] at h5 ⊢
  refine XI (JC (JM l)) (fun g hg => ?_) h5
  obtain ⟨q, hq, rfl⟩ := List.mem_map.1 hg
  have h6 := IM (h3 q hq)
  obtain ⟨r, hr, rfl⟩ := List.mem_map.1 hq
  obtain ⟨e, he, rfl⟩ := xJ.1 hr
  exact ⟨(LV h1 e he).1, by rw [h6.2.2.2]; exact h6.2.2.1⟩

theorem WR {l : List aC} (h : (jC l).2 ≠ 0) : (jC l).1 = [] := by
  unfold jC at h ⊢
  split
  · rfl
  · rename_i h1
    rw [if_neg h1] at h
    split
    · rfl
    · rename_i h2
      rw [if_neg h2] at h
      exact PS h

end Go.Abs
namespace Go.Abs
open Go
def PB (s : aS) : Bool := (decide (0 ≤ s.From) && decide (s.From ≤ 1125899906842624)) && (decide (0 ≤ s.To) && decide (s.To ≤ 1125899906842624)) && decide (s.From < s.To)

theorem VQ (s : aS) : xS s = some (PB s) := by
  unfold xS vV PB
  simp only [Option.bind_some]
  cases h : (decide (0 ≤ s.From) && decide (s.From ≤ 1125899906842624)) <;> simp [cV]

end Go.Abs
namespace Go.Abs
open Go
theorem MB : okL [] := ⟨by simp, by simp⟩

theorem aAD {gs : List (List aF × List aB)} (h : ∀ g ∈ gs, g.1.length ≤ 4398046510976) (hl : (flat gs).length ≤ 4096) : okL (flat gs) := by
  refine ⟨by omega, fun e he => ?_⟩
  obtain ⟨g, hg, h1⟩ := List.mem_flatMap.1 he
  obtain ⟨j, _, rfl⟩ := List.mem_map.1 h1
  exact h g hg

theorem YX {l : List aC} (hl : okL l) : okL (jC l).1 := by
  by_cases h : (jC l).2 = 0
  · obtain ⟨_, _, _, h4, h5⟩ := DW h
    rw [h4] at h5 ⊢
    refine aAD (fun g hg => ?_) h5
    obtain ⟨q, hq, rfl⟩ := List.mem_map.1 hg
    obtain ⟨r, hr, rfl⟩ := List.mem_map.1 hq
    obtain ⟨e, he, rfl⟩ := xJ.1 hr
    exact hl.2 e he
  · rw [WR h]; exact MB

end Go.Abs
namespace Go.Abs
open Go
theorem HT {σ : Type} {y : σ → List aF → List aB → Option (σ × Bool)} (c : List aC) : ∀ (gs : List (List aF × List aB)) (s s' : σ), itG y gs s = some s' →
    ∃ x, itG (fun st t10 t11 => rnd (fun (s : σ) => jJ y c s t10 t11) st) gs (.inl s) = some x ∧ Sum.elim id id x = s'
  | [], s, s', h => by simp only [itG, Option.some.injEq] at h; exact ⟨_, rfl, h⟩
  | g :: gs, s, s', h => by
    simp only [itG] at h
    obtain ⟨z, hz, h⟩ := aV h
    have hl : jJ y c s g.1 g.2 = some (if z.2 then .inl z.1 else .inr z.1) := by
      unfold jJ
      rw [hz]
      obtain ⟨z1, z2⟩ := z
      cases z2 <;> rfl
    cases h2 : z.2
    · rw [h2] at h hl
      simp only [Bool.false_eq_true, if_false, Option.some.injEq] at h hl
      refine ⟨.inr z.1, ?_, h⟩
      simp [itG, rnd, hl]
    · rw [h2] at h hl
      simp only [if_true] at h hl
      obtain ⟨x, h3, h4⟩ := HT c gs z.1 s' h
      refine ⟨x, ?_, h4⟩
      simp only [itG, rnd, hl, Option.bind_some, Sum.isLeft_inl, if_true]
      exact h3

theorem EA {σ : Type} {y : σ → List aF → List aB → Option (σ × Bool)} {l : List aC} (hl : okL l) {s s' : σ} (h : itG y (if nY l then groups l else []) s = some s') : kW y l s = some s' := by
  unfold kW
  rw [UI hl]
  cases hm : nY l
  · rw [hm] at h
    simp only [Bool.false_eq_true, if_false, itG] at h
    simpa using h
  · rw [hm] at h
    simp only [if_true] at h
    simp only [Option.bind_some, Bool.not_true, cond_false, oQ, qA]
    obtain ⟨x, h1, h2⟩ := HT l (groups l) s s' h
    rw [MJ hl h1]
    cases x <;> simpa using h2

theorem QZ {r : List aF} (hr : r.length ≤ 4398046510976) (c : List aC) : ∀ (gs : List (List aF × List aB)), (∀ g ∈ gs, g.1.length ≤ 4398046510976) →
    ∃ x, itG (fun st t12 t13 => rnd (fun (s : (List aB)) => nX r c s t12 t13) st) gs (.inl []) = some x ∧ Sum.elim (fun _ => []) id x = look gs r
  | [], _ => ⟨_, rfl, rfl⟩
  | g :: gs, hg => by
    have h1 : nX r c [] g.1 g.2 = some (if g.1 = r then .inr g.2 else .inl []) := by
      unfold nX
      rw [EV g.1 r (by have := hg g (by simp); omega)]
      by_cases h : g.1 = r <;> simp [h]
    rw [oN]
    by_cases h : g.1 = r
    · rw [if_pos h] at h1 ⊢
      exact ⟨.inr g.2, by simp [itG, rnd, h1], rfl⟩
    · rw [if_neg h] at h1 ⊢
      obtain ⟨x, h2, h3⟩ := QZ hr c gs (fun q hq => hg q (by simp [hq]))
      refine ⟨x, ?_, h3⟩
      simp only [itG, rnd, h1, Option.bind_some, Sum.isLeft_inl, if_true]
      exact h2

def KW (l : List aC) (r : List aF) : List aB := if mU r && nY l then look (groups l) r else []

theorem ZL {l : List aC} (hl : okL l) {r : List aF} (hr : r.length ≤ 4398046510976) : tN l r = some (KW l r) := by
  unfold tN KW
  rw [AL]
  cases h1 : mU r
  · simp
  · simp only [Option.bind_some, Bool.not_true, cond_false, mT, wB, Bool.true_and]
    obtain ⟨x, h2, h3⟩ := QZ hr l (if nY l then groups l else []) (by
      intro g hg
      split at hg
      · exact FW hl hg
      · simp at hg)
    rw [EA hl h2]
    have h4 : look (if nY l then groups l else []) r = if nY l then look (groups l) r else [] := by split <;> rfl
    rw [h4] at h3
    cases x
    · simp only [Sum.elim_inl] at h3
      simp [← h3]
    · simp only [Sum.elim_inr, id_eq] at h3
      simp [← h3]

theorem aAd {l a : List aC} (hu : l.any unE = false) (ho : l.any CI = false) (ma : nY a = true) (h : ∀ r, jD (bZ l r) = (bZ a r, 0)) : jC l = (a, 0) := by
  obtain ⟨h1, _, h3⟩ := pS ma
  have hs := JC (by1 := jD) (JM l)
  have hf : flat (vE jD (tD l)) = a := by
    rw [← xC]
    conv => rhs; rw [← vL a]
    rw [VA (gs := CL (vE jD (tD l))) (hs := groups a) (hs.filter _) h3 (NY _) (SX a) fun r => ?_]
    have h4 := qZ (gs := CL (vE jD (tD l))) (hs.filter _) r
    rw [← h4, xC, qZ hs, HB (by rw [NF]), BN, h r, mG h3]
  unfold jC
  rw [if_neg (by simp [hu]), if_neg (by simp [ho]), RW (fun g hg => ?_) (by simpa [hf] using h1), hf]
  · rfl
  · obtain ⟨r, _, rfl⟩ := List.mem_map.1 hg
    simp only
    rw [h r]

theorem VP {l : List aC} (hm : nY l = true) {e : aC} (he : e ∈ l) : mU e.Row = true ∧ -2 < e.At ∧ e.At < 1125899906842624 ∧ e.Net ≠ 0 ∧ e.Net ≤ 1048576 ∧ -1048576 ≤ e.Net := by
  obtain ⟨_, h2, _⟩ := pS hm
  have he' : e ∈ flat (groups l) := by rw [vL]; exact he
  obtain ⟨g, hg, h1⟩ := List.mem_flatMap.1 he'
  obtain ⟨j, hj, rfl⟩ := List.mem_map.1 h1
  obtain ⟨a, b⟩ := h2 g hg
  exact ⟨a, (lV.1 b).2.above j hj⟩

theorem DP {l : List aC} (hm : nY l = true) (r : List aF) : fN (bZ l r) = true := by
  rw [← mG (pS hm).2.2]; exact XA hm r

theorem ZZ {f h : List aB} (h1 : f.any sK = false) (h2 : f.any yL = false) (hh : fN h = true) (hv : ∀ t, -2 < t → t < 1125899906842624 → val h t = val f t) : jD f = (h, 0) := by
  unfold jD
  rw [if_neg (by simp [h1]), if_neg (by simp [h2]), JH (fun j hj => (yO h2 j hj).1) (aBD hh) hv]
  unfold told
  rw [if_pos hh]

end Go.Abs
namespace Go.Abs
open Go
theorem OQ {l : List aC} (h1 : l.any unE = false) (h2 : l.any CI = false) (r : List aF) : (bZ l r).any sK = false ∧ (bZ l r).any yL = false := by
  constructor
  · refine List.any_eq_false.2 fun j hj => ?_
    obtain ⟨e, he, rfl⟩ := List.mem_map.1 hj
    have := LV h1 e (List.mem_filter.1 he).1
    have h3 : (jE e).Net = e.Net := rfl
    simp only [sK, zV, h3, Bool.not_eq_true', Bool.and_eq_false_iff, decide_eq_false_iff_not, not_or, Decidable.not_not, Bool.not_eq_false, Bool.and_eq_true, decide_eq_true_eq]
    omega
  · refine List.any_eq_false.2 fun j hj => ?_
    obtain ⟨e, he, rfl⟩ := List.mem_map.1 hj
    have := List.any_eq_false.1 h2 e (List.mem_filter.1 he).1
    have h3 : (jE e).At = e.At := rfl
    simp only [CI, Bool.or_eq_true, decide_eq_true_eq, not_or] at this
    simp only [yL, h3, Bool.or_eq_true, decide_eq_true_eq]
    omega

end Go.Abs
namespace Go.Abs
open Go
abbrev ltE (x y : aC) : Prop := iY x.Row y.Row < 0 ∨ (x.Row = y.Row ∧ x.At < y.At)

theorem BR : ∀ {f : List aB} {last : Int}, tE last f ↔ (∀ j ∈ f, tF last j = false) ∧ f.Pairwise fun a b => a.At < b.At
  | [], last => by simp [tE]
  | j :: f, last => by
    rw [List.pairwise_cons]
    unfold tE
    rw [← lI]
    constructor
    · rintro ⟨h1, h2⟩
      have h3 := BR.1 h2
      have h4 := lI.1 h1
      refine ⟨fun k hk => ?_, fun k hk => (lI.1 (h3.1 k hk)).1, h3.2⟩
      rcases List.mem_cons.1 hk with rfl | hk
      · exact h1
      · have := lI.1 (h3.1 k hk)
        exact lI.2 (by omega)
    · rintro ⟨h1, h2, h3⟩
      refine ⟨h1 j (by simp), BR.2 ⟨fun k hk => ?_, h3⟩⟩
      have := lI.1 (h1 k (by simp [hk]))
      have := h2 k hk
      exact lI.2 (by omega)

theorem aAp {l : List aC} : nY l = true ↔ l.length ≤ 4096 ∧ (∀ e ∈ l, mU e.Row = true ∧ tF (-2) (jE e) = false) ∧ l.Pairwise ltE ∧ ∀ r ∈ rowsOf l, (bZ l r).length ≤ 1024 := by
  constructor
  · intro h
    obtain ⟨h1, h2, h3⟩ := pS h
    refine ⟨h1, fun e he => ?_, ?_, fun r _ => (lV.1 (DP h r)).1⟩
    · obtain ⟨a, b, c, d, e1, e2⟩ := VP h he
      exact ⟨a, lI.2 ⟨b, c, d, e1, e2⟩⟩
    · rw [← vL l]
      unfold flat
      rw [List.flatMap, List.pairwise_flatten, List.pairwise_map]
      constructor
      · intro x hx
        obtain ⟨g, hg, rfl⟩ := List.mem_map.1 hx
        have := (BR.1 (lV.1 (h2 g hg).2).2).2
        rw [gV, List.pairwise_map]
        exact this.imp fun h => .inr ⟨rfl, h⟩
      · refine h3.imp fun {a b} h x hx y hy => ?_
        obtain ⟨j, _, rfl⟩ := List.mem_map.1 hx
        obtain ⟨k, _, rfl⟩ := List.mem_map.1 hy
        exact .inl h
  · rintro ⟨h1, h2, h3, h4⟩
    have hs : Srt leE l := h3.imp fun h => by
      rcases h with h | ⟨h, h'⟩
      · exact .inl h
      · exact .inr ⟨h, by omega⟩
    have hg := rN hs
    unfold nY
    rw [Bool.and_eq_true]
    refine ⟨by simpa using h1, uN.2 ⟨fun g hg' => ?_, hg, fun q hq => by cases hq⟩⟩
    obtain ⟨_, e, he, h5⟩ := AD hg'
    have hj : g.2 = bZ l g.1 := by rw [← mG hg, tT hg hg']
    refine ⟨by rw [h5]; exact (h2 e he).1, ?_⟩
    rw [hj]
    refine lV.2 ⟨h4 _ (xJ.2 ⟨e, he, h5.symm⟩), BR.2 ⟨fun j hj => ?_, ?_⟩⟩
    · obtain ⟨e, he, rfl⟩ := List.mem_map.1 hj
      exact (h2 e (List.mem_filter.1 he).1).2
    · unfold bZ
      rw [List.pairwise_map, List.pairwise_filter]
      refine h3.imp fun {a b} h ha hb => ?_
      rcases h with h | ⟨_, h⟩
      · simp only [decide_eq_true_eq] at ha hb
        rw [ha, hb] at h
        exact absurd h mE
      · exact h

end Go.Abs
namespace Go.Abs
open Go
theorem UA {c : Int} : ∀ {l : List Int} {m : Int}, c ≤ l.foldl mn m ↔ c ≤ m ∧ ∀ x ∈ l, c ≤ x
  | [], m => by simp
  | a :: l, m => by
    rw [List.foldl_cons, UA]
    unfold mn
    constructor
    · rintro ⟨h1, h2⟩
      have h3 : c ≤ m ∧ c ≤ a := by split at h1 <;> omega
      refine ⟨h3.1, fun x hx => ?_⟩
      rcases List.mem_cons.1 hx with rfl | hx
      · exact h3.2
      · exact h2 x hx
    · rintro ⟨h1, h2⟩
      have := h2 a (by simp)
      exact ⟨by split <;> omega, fun x hx => h2 x (by simp [hx])⟩

theorem NA {t : Int} : ∀ {f : List aB} {l v : Int}, tE l f → v + val f t = v ∨ v + val f t ∈ parts v f
  | [], l, v, _ => .inl (by simp [val])
  | j :: r, l, v, h => by
    unfold parts
    rw [cD]
    by_cases e : j.At ≤ t
    · rw [if_pos e]
      right
      rcases NA (t := t) (v := v + j.Net) h.2 with h1 | h1
      · rw [show v + (j.Net + val r t) = v + j.Net by omega]; simp
      · rw [show v + (j.Net + val r t) = v + j.Net + val r t by omega]; exact List.mem_cons_of_mem _ h1
    · left
      rw [if_neg e, h.2.tU (by omega)]; omega

theorem MS {f : List aB} (hf : fN f = true) : 0 ≤ DC f ↔ ∀ t, 0 ≤ val f t := by
  have hr := (lV.1 hf).2
  unfold DC
  rw [UA]
  constructor
  · rintro ⟨_, h2⟩ t
    rcases NA (t := t) (v := 0) hr with h | h
    · omega
    · rw [parts_eq hr] at h
      obtain ⟨j, hj, h⟩ := List.mem_map.1 h
      have := h2 _ (List.mem_map.2 ⟨j, hj, rfl⟩)
      omega
  · intro h
    refine ⟨h _, fun x hx => ?_⟩
    obtain ⟨j, _, rfl⟩ := List.mem_map.1 hx
    exact h _

theorem rK {l : List aC} : rV l = true ↔ nY l = true ∧ ∀ r t, 0 ≤ val (bZ l r) t := by
  constructor
  · intro h
    unfold rV at h
    rw [Bool.and_eq_true, uN] at h
    obtain ⟨h1, h2, h3, _⟩ := h
    have hm : nY l = true := by
      unfold nY
      rw [Bool.and_eq_true]
      exact ⟨h1, uN.2 ⟨fun g hg => ⟨(h2 g hg).1, by have := (h2 g hg).2; unfold LU at this; rw [Bool.and_eq_true] at this; exact this.1⟩, h3, fun q hq => by cases hq⟩⟩
    refine ⟨hm, fun r => ?_⟩
    rw [← mG h3]
    rcases AJ (groups l) r with ⟨e, _⟩ | ⟨g, hg, _, e⟩
    · rw [e]; intro t; simp [val]
    · rw [e]
      have := (h2 g hg).2
      unfold LU at this
      rw [Bool.and_eq_true, decide_eq_true_eq] at this
      exact (MS this.1).1 this.2
  · rintro ⟨hm, h⟩
    obtain ⟨h1, h2, h3⟩ := pS hm
    unfold rV
    rw [Bool.and_eq_true]
    refine ⟨by simpa using h1, uN.2 ⟨fun g hg => ⟨(h2 g hg).1, ?_⟩, h3, fun q hq => by cases hq⟩⟩
    unfold LU
    rw [Bool.and_eq_true, decide_eq_true_eq]
    refine ⟨(h2 g hg).2, (MS (h2 g hg).2).2 ?_⟩
    have : g.2 = bZ l g.1 := by rw [← mG h3, tT h3 hg]
    rw [this]; exact h g.1

theorem WZ {f : List aB} (hu : Up (-2) f) (h : ∀ t, -2 < t → t < 1125899906842624 → 0 ≤ val f t) : ∀ t, 0 ≤ val f t := by
  intro t
  by_cases h1 : -2 < t
  · by_cases h2 : t < 1125899906842624
    · exact h t h1 h2
    · have := BO (s := 1125899906842623) (t := t) (by omega) (f := f) (fun j hj => by have := (hu.above j hj); omega)
      rw [← this]; exact h _ (by omega) (by omega)
  · rw [hu.tU (by omega)]; omega

theorem CK {l : List aC} (h : (jC l).2 = 0) (r : List aF) : bZ (jC l).1 r = wP (bZ l r) := by
  rw [← mG (pS (NX h)).2.2, VK h, (IM (MX h r)).2.2.2]

theorem xK {l : List aC} (h : (jC l).2 = 0) (r : List aF) : ∀ j ∈ bZ l r, -2 < j.At :=
  fun j hj => (yO (IM (MX h r)).2.1 j hj).1

theorem XK {l : List aC} (h : (jC l).2 = 0) (r : List aF) {t : Int} (h1 : -2 < t) (h2 : t < 1125899906842624) : val (bZ (jC l).1 r) t = val (bZ l r) t := by
  rw [CK h, BX (xK h r) h1 h2]

theorem TH {l : List aC} (h : (jC l).2 = 0) (hv : ∀ r t, -2 < t → t < 1125899906842624 → 0 ≤ val (bZ l r) t) : rV (jC l).1 = true := by
  refine rK.2 ⟨NX h, fun r => ?_⟩
  rw [CK h]
  refine WZ (EX (xK h r)) fun t h1 h2 => ?_
  rw [BX (xK h r) h1 h2]; exact hv r t h1 h2

end Go.Abs
namespace Go.Abs
open Go
theorem TF {l : List aC} (hm : nY l = true) : tD l = groups l := by
  obtain ⟨_, _, hp, _⟩ := aAp.1 hm
  have hs : Srt leE l := hp.imp fun h => by
    rcases h with h | ⟨h, h'⟩
    · exact .inl h
    · exact .inr ⟨h, by omega⟩
  have hg := rN hs
  unfold tD
  rw [← ID (List.Perm.refl l) hs, List.map_map]
  conv => rhs; rw [← List.map_id (groups l)]
  refine List.map_congr_left fun g hg' => ?_
  simp only [Function.comp, id]
  rw [← mG hg, tT hg hg']

end Go.Abs
namespace Go.Abs
open Go
def oC (f : List aB) : List Int := f.flatMap fun j => List.replicate j.Net.toNat j.At

def ends (f : List aB) : List Int := f.flatMap fun j => List.replicate (-j.Net).toNat j.At

def eP (f : List aB) : Int := (f.map fun j => if 0 < j.Net then j.Net else 0).sum

def pairs (d : Int) : List Int → List Int → List aS
  | [], _ => []
  | b :: bs, [] => ⟨b, d⟩ :: pairs d bs []
  | b :: bs, e :: es => ⟨b, e⟩ :: pairs d bs es

theorem nK (j : aB) (f : List aB) : oC (j :: f) = List.replicate j.Net.toNat j.At ++ oC f := rfl

theorem zG (j : aB) (f : List aB) : ends (j :: f) = List.replicate (-j.Net).toNat j.At ++ ends f := rfl

theorem oD (j : aB) (f : List aB) : eP (j :: f) = (if 0 < j.Net then j.Net else 0) + eP f := by simp [eP]

theorem QE (f g : List aB) : eP (f ++ g) = eP f + eP g := by simp [eP]

theorem pG : ∀ f : List aB, 0 ≤ eP f
  | [] => by simp [eP]
  | j :: f => by rw [oD]; have := pG f; split <;> omega

theorem BK : ∀ f : List aB, eP f = ((oC f).length : Nat)
  | [] => rfl
  | j :: f => by
    rw [oD, nK, List.length_append, List.length_replicate, BK f]
    split <;> omega

theorem tZ (d : Int) : ∀ (B E : List Int), (pairs d B E).length = B.length
  | [], _ => rfl
  | _ :: bs, [] => by simp [pairs, tZ d bs []]
  | _ :: bs, _ :: es => by simp [pairs, tZ d bs es]

theorem EJ (d t : Int) : ∀ (B E : List Int), E.length ≤ B.length → pairs d (B ++ [t]) E = pairs d B E ++ [⟨t, d⟩]
  | [], [], _ => rfl
  | [], _ :: _, h => by simp at h
  | b :: bs, [], _ => by simp only [List.cons_append, pairs, EJ d t bs [] (by simp)]
  | b :: bs, e :: es, h => by simp only [List.cons_append, pairs, EJ d t bs es (by simpa using h)]

theorem MR (d t : Int) : ∀ (B E : List Int), E.length < B.length → (pairs d B E).set E.length ⟨((pairs d B E).getD E.length default).From, t⟩ = pairs d B (E ++ [t])
  | [], _, h => by simp at h
  | b :: bs, [], _ => by simp [pairs]
  | b :: bs, e :: es, h => by
    have := MR d t bs es (by simpa using h)
    simp only [pairs, List.length_cons, List.set_cons_succ, List.cons_append, List.getD_cons_succ]
    rw [this]

theorem KB (d d' : Int) : ∀ (B E : List Int), B.length ≤ E.length → pairs d B E = pairs d' B E
  | [], _, _ => rfl
  | _ :: _, [], h => by simp at h
  | b :: bs, e :: es, h => by simp only [pairs, KB d d' bs es (by simpa using h)]

theorem AA (d d' : Int) : ∀ (B E : List Int), pairs d' B E = pairs d B (E ++ List.replicate (B.length - E.length) d')
  | [], E => by simp [pairs]
  | b :: bs, [] => by
    have := AA d d' bs []
    simp only [List.nil_append, List.length_nil, Nat.sub_zero, List.length_cons, List.replicate_succ, pairs] at this ⊢
    rw [this]
  | b :: bs, e :: es => by
    have := AA d d' bs es
    simp only [List.cons_append, List.length_cons, Nat.add_sub_add_right, pairs]
    rw [this]

def yP (v : Int) : List aB → Prop
  | [] => True
  | j :: r => 0 ≤ v + j.Net ∧ yP (v + j.Net) r

theorem HU : ∀ {f : List aB} {v : Int}, (∀ x ∈ parts v f, 0 ≤ x) → yP v f
  | [], _, _ => trivial
  | j :: r, v, h => ⟨h _ (by simp [parts]), HU fun x hx => h x (by simp [parts, hx])⟩

theorem GU {f : List aB} (hf : fN f = true) (h : ∀ t, 0 ≤ val f t) : yP 0 f := by
  refine HU fun x hx => ?_
  rw [parts_eq (lV.1 hf).2] at hx
  obtain ⟨j, _, rfl⟩ := List.mem_map.1 hx
  have := h j.At
  omega

theorem aBd {f : List aB} (hf : ∀ j ∈ f, j.Net ≤ 1048576 ∧ -1048576 ≤ j.Net) (hl : f.length ≤ 1099511627776) : qJ f = some (eP f) := by
  unfold qJ yE
  rw [uU (l := f) (body := fun s : Int × Int => nR f (f.length : Nat) s.1 s.2) (fun v i => (v, i)) (fun v r => v + eP r)
    (fun v r => (∀ j ∈ r, j.Net ≤ 1048576 ∧ -1048576 ≤ j.Net) ∧ 0 ≤ v ∧ v ≤ 1048576 * (1099511627776 - r.length) ∧ r.length ≤ 1099511627776) 0 ?_ ?_ ⟨hf, by omega, by omega, hl⟩]
  · simp [tW]
  · rintro i a r v ha ⟨h1, h2, h3, h4⟩
    have hlt := (List.getElem?_eq_some_iff.1 ha).1
    obtain ⟨d1, d2, d3, d4⟩ := idx ha (by omega)
    have hj := h1 a (List.mem_cons_self ..)
    simp only [List.length_cons] at h3 h4
    have hif : (if (0 : Int) > a.Net then 0 else a.Net) = (if 0 < a.Net then a.Net else 0) := by split <;> split <;> omega
    have hb : 0 ≤ (if 0 < a.Net then a.Net else 0) ∧ (if 0 < a.Net then a.Net else 0) ≤ 1048576 := by split <;> omega
    have hw : IntKind.i64.wrap (v + (if 0 < a.Net then a.Net else 0)) = v + (if 0 < a.Net then a.Net else 0) := fT (by omega) (by omega)
    left
    refine ⟨v + (if 0 < a.Net then a.Net else 0), ?_, ⟨fun j hj => h1 j (List.mem_cons_of_mem _ hj), by omega, by omega, by omega⟩, by rw [oD]; omega⟩
    show nR _ _ _ _ = _
    simp only [nR, d1, cond_true, bD d2, d3, d4, hif, hw]
  · rintro v _
    show nR _ _ _ _ = _
    simp only [nR, jB, cond_false]
    simp [eP]

theorem UU {f : List aB} (hf : fN f = true) : qJ f = some (eP f) := aBd (AV hf) (by have := (lV.1 hf).1; omega)

theorem SK {f : List aB} (hf : ∀ j ∈ f, j.Net ≤ 1048576) : eP f ≤ 1048576 * f.length := by
  induction f with
  | nil => simp [eP]
  | cons j f ih =>
    rw [oD, List.length_cons]
    have := ih fun k hk => hf k (by simp [hk])
    have := hf j (by simp)
    split <;> omega

theorem XF {B E : List Int} {t : Int} (h : E.length < B.length) (hB : B.length ≤ 1000000) : lR t (pairs 0 B E) (E.length : Nat) = some (pairs 0 B (E ++ [t]), ((E.length + 1 : Nat) : Int)) := by
  unfold lR
  rw [bD ⟨by omega, by rw [tZ]; omega⟩, Int.toNat_natCast, MR 0 t B E h, fT (by omega) (by omega)]
  rfl

theorem RX {f : List aB} {i : Int} {j : aB} {E : List Int} (t13 : Int) (hN : j.Net ≤ 4294967296) : ∀ (n : Nat) (k : Nat) (B : List Int), E.length ≤ B.length → j.Net.toNat = k + n → B.length + n ≤ 1000000 →
    lp (fun s : List aS × Int × aB × Int => lH f t13 i j.Net s.1 s.2.1 s.2.2.1 s.2.2.2) (pairs 0 B E, ((E.length : Nat) : Int), j, (k : Int)) = some (pairs 0 (B ++ List.replicate n j.At) E, ((E.length : Nat) : Int), j)
  | 0, k, B, _, hk, _ => by
    refine cO ?_
    show lH _ _ _ _ _ _ _ _ = _
    have : decide ((k : Int) < j.Net) = false := by simp; omega
    simp only [lH, this, cond_false, List.replicate_zero, List.append_nil]
  | n + 1, k, B, hE, hk, hB => by
    have h1 : decide ((k : Int) < j.Net) = true := by simp; omega
    have hb : (fun s : List aS × Int × aB × Int => lH f t13 i j.Net s.1 s.2.1 s.2.2.1 s.2.2.2) (pairs 0 B E, ((E.length : Nat) : Int), j, (k : Int)) = some (.inl (pairs 0 (B ++ [j.At]) E, ((E.length : Nat) : Int), j, ((k + 1 : Nat) : Int))) := by
      show lH _ _ _ _ _ _ _ _ = _
      simp only [lH, h1, cond_true]
      rw [bD (by rw [tZ]; simp only [List.length_cons, List.length_nil]; omega), EJ 0 j.At B E hE, fT (by omega) (by omega)]
      rfl
    rw [eG hb, RX t13 hN n (k + 1) (B ++ [j.At]) (by simp; omega) (by omega) (by simp; omega), List.append_assoc, List.replicate_succ]
    rfl

theorem ZM {f : List aB} {i : Int} {j : aB} {B : List Int} (t13 : Int) (hB : B.length ≤ 1000000) (hN : -4294967296 ≤ j.Net) : ∀ (n : Nat) (k : Nat) (E : List Int), (-j.Net).toNat = k + n → E.length + n ≤ B.length →
    lp (fun s : List aS × Int × aB × Int => lF f t13 i (-j.Net) s.1 s.2.1 s.2.2.1 s.2.2.2) (pairs 0 B E, ((E.length : Nat) : Int), j, (k : Int)) = some (pairs 0 B (E ++ List.replicate n j.At), ((E.length + n : Nat) : Int))
  | 0, k, E, hk, _ => by
    refine cO ?_
    show lF _ _ _ _ _ _ _ _ = _
    have : decide ((k : Int) < -j.Net) = false := by simp; omega
    simp only [lF, this, cond_false, List.replicate_zero, List.append_nil, Nat.add_zero]
  | n + 1, k, E, hk, hE => by
    have h1 : decide ((k : Int) < -j.Net) = true := by simp; omega
    have hb : (fun s : List aS × Int × aB × Int => lF f t13 i (-j.Net) s.1 s.2.1 s.2.2.1 s.2.2.2) (pairs 0 B E, ((E.length : Nat) : Int), j, (k : Int)) = some (.inl (pairs 0 B (E ++ [j.At]), (((E ++ [j.At]).length : Nat) : Int), j, ((k + 1 : Nat) : Int))) := by
      show lF _ _ _ _ _ _ _ _ = _
      simp only [lF, h1, cond_true, XF (show E.length < B.length by omega) hB, Option.bind_some]
      rw [fT (by omega) (by omega)]
      simp
    rw [eG hb, ZM t13 hB hN n (k + 1) (E ++ [j.At]) (by omega) (by simp; omega), List.append_assoc, List.replicate_succ]
    have : (E ++ [j.At]).length + n = E.length + (n + 1) := by simp; omega
    rw [this]
    rfl

theorem TZ {B : List Int} (hB : B.length ≤ 1000000) : ∀ (n : Nat) (E : List Int), E.length + n = B.length →
    lp (fun s : List aS × Int => lE s.1 s.2) (pairs 0 B E, ((E.length : Nat) : Int)) = some (pairs 1125899906842624 B E)
  | 0, E, h => by
    refine cO ?_
    show lE _ _ = _
    have : decide (((E.length : Nat) : Int) < (((pairs 0 B E).length : Nat) : Int)) = false := by simp [tZ]; omega
    simp only [lE, this, cond_false]
    rw [KB 0 1125899906842624 B E (by omega)]
  | n + 1, E, h => by
    have h1 : decide (((E.length : Nat) : Int) < (((pairs 0 B E).length : Nat) : Int)) = true := by simp [tZ]; omega
    have hb : (fun s : List aS × Int => lE s.1 s.2) (pairs 0 B E, ((E.length : Nat) : Int)) = some (.inl (pairs 0 B (E ++ [1125899906842624]), (((E ++ [1125899906842624]).length : Nat) : Int))) := by
      show lE _ _ = _
      simp only [lE, h1, cond_true, XF (show E.length < B.length by omega) hB, Option.bind_some]
      simp
    rw [eG hb, TZ hB n (E ++ [1125899906842624]) (by simp; omega)]
    rw [AA 1125899906842624 1125899906842624 B E, AA 1125899906842624 1125899906842624 B (E ++ [1125899906842624])]
    have : B.length - E.length = B.length - (E ++ [(1125899906842624 : Int)]).length + 1 := by simp; omega
    rw [this, List.replicate_succ, List.append_assoc]
    rfl

def sL (f : List aB) : List aS := pairs 1125899906842624 (oC f) (ends f)

theorem EW : ∀ {f : List aB} {v : Int}, yP v f → ((ends f).length : Int) ≤ v + (oC f).length ∨ f = []
  | [], _, _ => .inr rfl
  | j :: r, v, h => by
    left
    rw [zG, nK, List.length_append, List.length_append, List.length_replicate, List.length_replicate]
    rcases EW h.2 with h1 | h1
    · omega
    · subst h1
      have := h.1
      simp [oC, ends]
      omega

theorem aAa {f : List aB} (hf : fN f = true) (hn : ∀ t, 0 ≤ val f t) (hm : eP f ≤ 1000000) : uE f = some (sL f) := by
  have hok := GU hf hn
  have hlen := (lV.1 hf).1
  have hb0 := BK f
  unfold uE
  rw [UU hf]
  simp only [Option.bind_some]
  have h0 := pG f
  rw [bD ⟨h0, by omega, by omega⟩]
  unfold wK
  have key := uU (l := f) (body := fun s : List aS × Int × Int => mP f (f.length : Nat) s.1 s.2.1 s.2.2) (fun (s : List Int × List Int) i => (pairs 0 s.1 s.2, ((s.2.length : Nat) : Int), i)) (fun s r => (pairs 0 (s.1 ++ oC r) (s.2 ++ ends r), (((s.2 ++ ends r).length : Nat) : Int)))
    (fun s r => s.2.length ≤ s.1.length ∧ yP ((s.1.length : Int) - s.2.length) r ∧ s.1.length + (oC r).length ≤ 1000000 ∧ ∀ j ∈ r, j.Net ≤ 1048576 ∧ -1048576 ≤ j.Net) ([], []) ?_ ?_ ⟨by simp, by simpa using hok, by simp; omega, AV hf⟩
  · simp only [pairs, List.length_nil, Int.natCast_zero, List.nil_append] at key
    rw [key]
    simp only [Option.bind_some, rW, wD]
    have he : (ends f).length ≤ (oC f).length := by
      rcases EW hok with h | h
      · omega
      · subst h; simp [ends]
    rw [TZ (by omega) ((oC f).length - (ends f).length) (ends f) (by omega)]
    rfl
  · rintro i j r ⟨B, E⟩ ha ⟨h1, h2, h3, h4⟩
    left
    simp only at h1 h2 h3
    obtain ⟨d1, d2, d3, d4⟩ := idx ha (by omega)
    have hj := h4 j (by simp)
    have hv := h2.1
    rw [nK, List.length_append, List.length_replicate] at h3
    have hw : IntKind.i64.wrap (0 - j.Net) = -j.Net := by rw [fT (by omega) (by omega)]; omega
    refine ⟨(B ++ List.replicate j.Net.toNat j.At, E ++ List.replicate (-j.Net).toNat j.At), ?_, ⟨by simp; omega, ?_, by simp; omega, fun k hk => h4 k (by simp [hk])⟩, ?_⟩
    · show mP _ _ _ _ _ = _
      simp only [mP, d1, cond_true, bD d2, d3, wC]
      have b1 := RX (f := f) (i := (i : Int)) (j := j) (E := E) (f.length : Nat) (by omega) j.Net.toNat 0 B h1 (by omega) (by omega)
      have e1 := ZM (f := f) (i := (i : Int)) (j := j) (B := B ++ List.replicate j.Net.toNat j.At) (f.length : Nat) (by simp; omega) (by omega) (-j.Net).toNat 0 E (by omega) (by simp; omega)
      simp only [Int.natCast_zero] at b1 e1
      rw [b1]
      simp only [Option.bind_some, sG, hw, vY]
      rw [e1]
      simp only [Option.bind_some, sS, d4]
      simp
    · have : (((B ++ List.replicate j.Net.toNat j.At).length : Nat) : Int) - (((E ++ List.replicate (-j.Net).toNat j.At).length : Nat) : Int) = (B.length : Int) - E.length + j.Net := by simp; omega
      simp only
      rw [this]; exact h2.2
    · simp only [nK, zG, List.append_assoc]
  · rintro ⟨B, E⟩ _
    show mP _ _ _ _ _ = _
    simp only [mP, jB, cond_false]
    simp [oC, ends]

end Go.Abs
namespace Go.Abs
open Go
def xX (r : List aF) (ss : List aS) : List aM := ss.map fun s => ⟨r, s⟩

def tL (gs : List (List aF × List aB)) : List aM := gs.flatMap fun g => xX g.1 (sL g.2)

def qB (gs : List (List aF × List aB)) : Int := (gs.map fun g => eP g.2).sum

theorem ED (g : List aF × List aB) (gs : List (List aF × List aB)) : tL (g :: gs) = xX g.1 (sL g.2) ++ tL gs := rfl

theorem zZ (g : List aF × List aB) (gs : List (List aF × List aB)) : qB (g :: gs) = eP g.2 + qB gs := by simp [qB]

theorem AR : ∀ gs : List (List aF × List aB), 0 ≤ qB gs
  | [] => by simp [qB]
  | g :: gs => by rw [zZ]; have := AR gs; have := pG g.2; omega

theorem KS (f : List aB) : ((sL f).length : Int) = eP f := by rw [sL, tZ, BK]

theorem FY : ∀ gs : List (List aF × List aB), ((tL gs).length : Int) = qB gs
  | [] => rfl
  | g :: gs => by
    rw [ED, zZ, List.length_append, ← FY gs, ← KS]
    simp [xX]

def HF (l : List aC) : List aM × Int := if !nY l then ([], 2) else if !rV l then ([], 20) else if decide (4096 < qB (groups l)) then ([], 7) else (tL (groups l), 0)

theorem PY (l0 c : List aC) : ∀ (gs : List (List aF × List aB)) (n : Int), (∀ g ∈ gs, fN g.2 = true) → 0 ≤ n → n + 1073741824 * gs.length ≤ 4611686018427387904 →
    itG (fun st t22 t23 => rnd (fun (s : Int) => nA l0 c s t22 t23) st) gs (.inl n) = some (.inl (n + qB gs))
  | [], n, _, _, _ => by simp [itG, qB]
  | g :: gs, n, hg, hn, hb => by
    have hm := hg g (by simp)
    have h0 := pG g.2
    have h1 := SK (f := g.2) fun j hj => (AV hm j hj).1
    have h2 := (lV.1 hm).1
    simp only [List.length_cons] at hb
    have hw : IntKind.i64.wrap (n + eP g.2) = n + eP g.2 := fT (by omega) (by omega)
    have hl : nA l0 c n g.1 g.2 = some (.inl (n + eP g.2)) := by
      unfold nA
      rw [UU hm]
      simp only [Option.bind_some, hw]
    simp only [itG, rnd, hl, Option.bind_some, Sum.isLeft_inl, if_true]
    have := PY l0 c gs (n + eP g.2) (fun q hq => hg q (by simp [hq])) (by omega) (by omega)
    simp only [rnd] at this
    rw [this, zZ, Int.add_assoc]

theorem aBw {r : List aF} (hr : r.length ≤ 4398046510976) (ss : List aS) (out : List aM) (h : out.length + ss.length ≤ 1000000) : qU out r ss ((ss.length : Nat) : Int) 0 = some (.inl (out ++ xX r ss)) := by
  unfold qU
  rw [uU (l := ss) (body := fun s : List aM × Int => lQ r ss (ss.length : Nat) s.1 s.2) (fun o i => (o, i)) (fun o t => o ++ xX r t) (fun o t => o.length + t.length ≤ 1000000) out ?_ ?_ h]
  · rfl
  · intro i a t o ha hi
    left
    obtain ⟨d1, d2, d3, d4⟩ := idx ha (by omega)
    simp only [List.length_cons] at hi
    refine ⟨o ++ [⟨r, a⟩], ?_, by simp; omega, by simp [xX]⟩
    show lQ _ _ _ _ _ = _
    simp only [lQ, d1, cond_true, bD d2, d3, d4, EN hr, Option.bind_some]
    exact bD (by simp only [List.length_cons, List.length_nil]; omega)
  · intro o _
    show lQ _ _ _ _ _ = _
    simp only [lQ, jB, cond_false]
    simp [xX]

theorem NN (c : List aC) : ∀ (gs : List (List aF × List aB)) (out : List aM), (∀ g ∈ gs, fN g.2 = true ∧ (∀ t, 0 ≤ val g.2 t) ∧ g.1.length ≤ 4398046510976) → out.length + qB gs ≤ 1000000 →
    itG (fun st t34 t35 => rnd (fun (s : List aM) => nE c s t34 t35) st) gs (.inl out) = some (.inl (out ++ tL gs))
  | [], out, _, _ => by simp [itG, tL]
  | g :: gs, out, hg, hb => by
    obtain ⟨hm, hn, hr⟩ := hg g (by simp)
    have h0 := pG g.2
    have h1 := AR gs
    rw [zZ] at hb
    have hs := KS g.2
    have hl : nE c out g.1 g.2 = some (.inl (out ++ xX g.1 (sL g.2))) := by
      unfold nE
      rw [aAa hm hn (by omega)]
      simp only [Option.bind_some]
      rw [aBw hr _ _ (by omega)]
    simp only [itG, rnd, hl, Option.bind_some, Sum.isLeft_inl, if_true]
    have := NN c gs (out ++ xX g.1 (sL g.2)) (fun q hq => hg q (by simp [hq])) (by simp only [List.length_append, xX, List.length_map]; omega)
    simp only [rnd] at this
    rw [this, ED, List.append_assoc]

theorem zU : ∀ (l : List aC) (r : List aF) (f : List aB), (gA r f l).length ≤ l.length + 1
  | [], _, _ => by simp [gA]
  | e :: l, r, f => by
    rw [LO]
    split
    · have := zU l r (f ++ [jE e]); simp only [List.length_cons]; omega
    · have := zU l e.Row [jE e]; simp only [List.length_cons]; omega

theorem WK (l : List aC) : (groups l).length ≤ l.length := by
  cases l with
  | nil => simp [groups]
  | cons e l => exact zU l e.Row [jE e]

theorem qP {l : List aC} (ht : rV l = true) {g : List aF × List aB} (hg : g ∈ groups l) : fN g.2 = true ∧ ∀ t, 0 ≤ val g.2 t := by
  obtain ⟨hm, hv⟩ := rK.1 ht
  obtain ⟨_, h2, h3⟩ := pS hm
  have : g.2 = bZ l g.1 := by rw [← mG h3, tT h3 hg]
  exact ⟨(h2 g hg).2, by rw [this]; exact hv g.1⟩

theorem YU {l : List aC} (hl : okL l) : sJ l = some (HF l) := by
  unfold sJ HF
  rw [UI hl]
  cases hm : nY l
  · simp
  · simp only [Option.bind_some, Bool.not_true, cond_false, XZ hl, Bool.false_eq_true, if_false]
    cases ht : rV l
    · simp
    · have hn := (pS hm).1
      have hgl := WK l
      have h0 := AR (groups l)
      simp only [Bool.not_true, cond_false, Bool.false_eq_true, if_false, mT, Option.bind_some, uY]
      have hc := PY l l (groups l) 0 (fun g hg => (qP ht hg).1) (by omega) (by omega)
      rw [EA hl (s' := .inl (0 + qB (groups l))) (by rw [hm]; simpa using hc)]
      simp only [Option.bind_some, Sum.elim_inl, Int.zero_add]
      by_cases h7 : 4096 < qB (groups l)
      · simp [h7]
      · simp only [h7, decide_false, cond_false, Bool.false_eq_true, if_false]
        rw [bD ⟨h0, by omega, by omega⟩]
        unfold qT
        have hp := NN l (groups l) [] (fun g hg => ⟨(qP ht hg).1, (qP ht hg).2, FW hl hg⟩) (by simp; omega)
        rw [EA hl (s' := .inl ([] ++ tL (groups l))) (by rw [hm]; simpa using hp)]
        rfl

def JQ (s : aS) : Bool := PB s || ((decide (s.From = -1) && decide (0 ≤ s.To)) && decide (s.To ≤ 1125899906842624))

def pJ (p : aM) : Bool := mU p.Row && JQ p.Span

theorem TV (p : aM) : rH p = some (pJ p) := by
  unfold rH pJ
  rw [AL]
  cases h : mU p.Row
  · simp [cV]
  · simp only [cV, cond_true, Option.bind_some, yR, VQ, JQ, Bool.true_and]

theorem GC {s : aS} : JQ s = true ↔ -1 ≤ s.From ∧ s.From < s.To ∧ 0 ≤ s.To ∧ s.To ≤ 1125899906842624 := by
  unfold JQ PB
  simp only [Bool.or_eq_true, Bool.and_eq_true, decide_eq_true_eq]
  omega

def okP (l : List aM) : Prop := l.length ≤ 3518437208783 ∧ ∀ e ∈ l, e.Row.length ≤ 4398046510976

theorem RS {l : List aM} {f : aM → Option Bool} {g : aM → Bool} (hl : l.length ≤ 1099511627776) (hf : ∀ x ∈ l, f x = some (g x)) : cZ l f = some (l.any g) := by
  unfold cZ eY eK
  obtain ⟨x, e, hx⟩ := BB hl hf l 0 rfl (Nat.zero_le _)
  have e' : lp (fun s => eO f l (l.length : Nat) s) 0 = some x := e
  rw [e']
  rcases hx with ⟨rfl, h⟩ | ⟨i, rfl, _, _, h, _⟩
  · simp [dG, h]
  · simp [h]

def peL (l : List aM) : List aC := l.flatMap fun p => [⟨p.Row, p.Span.From, 1⟩, ⟨p.Row, p.Span.To, -1⟩]

theorem AX (p : aM) (l : List aM) : peL (p :: l) = [⟨p.Row, p.Span.From, 1⟩, ⟨p.Row, p.Span.To, -1⟩] ++ peL l := rfl

theorem VU (a b : List aM) : peL (a ++ b) = peL a ++ peL b := by simp [peL]

theorem MN : ∀ l : List aM, (peL l).length = 2 * l.length
  | [] => rfl
  | p :: l => by rw [AX, List.length_append, MN l]; simp; omega

theorem UF {l : List aM} (hl : okP l) (h : l.length ≤ 1000000) : okL (peL l) :=
  ⟨by rw [MN]; omega, fun e he => by
    obtain ⟨p, hp, h1⟩ := List.mem_flatMap.1 he
    have := hl.2 p hp
    simp only [List.mem_cons, List.not_mem_nil, or_false] at h1
    rcases h1 with rfl | rfl <;> exact this⟩

def dA (l : List aM) : List aC × Int := if l.any (fun p => !pJ p) then ([], 2) else if decide (4096 < l.length) then ([], 7) else jC (peL l)

theorem NL {l : List aM} (hl : okP l) (hn : l.length ≤ 1099511627776) : qS l = some (dA l) := by
  unfold qS dA
  rw [RS (g := fun p => !pJ p) hn (fun p _ => by simp [qR, TV])]
  simp only [Option.bind_some]
  cases h1 : l.any fun p => !pJ p
  · simp only [cond_false, Bool.false_eq_true, if_false]
    by_cases h2 : 4096 < l.length
    · have h2' : (4096 : Int) < ((l.length : Nat) : Int) := by omega
      simp [h2, h2']
    · have h2' : ¬ (4096 : Int) < ((l.length : Nat) : Int) := by omega
      simp only [h2, h2', decide_false, cond_false, Bool.false_eq_true, if_false]
      have hw : IntKind.i64.wrap ((2 : Int) * ((l.length : Nat) : Int)) = 2 * ((l.length : Nat) : Int) := fT (by omega) (by omega)
      rw [hw, bD ⟨by omega, by omega, by omega⟩]
      unfold wI
      rw [uU (l := l) (body := fun s : List aC × Int => mR l (l.length : Nat) s.1 s.2) (fun o i => (o, i)) (fun o t => o ++ peL t) (fun o t => o.length + 2 * t.length ≤ 1000000) [] ?_ ?_ (by simp; omega)]
      · simp only [Option.bind_some, List.nil_append, sM]
        rw [aAG (UF hl (by omega)) (by rw [MN]; omega)]
        rfl
      · intro i a t o ha hi
        left
        obtain ⟨d1, d2, d3, d4⟩ := idx ha (by omega)
        simp only [List.length_cons] at hi
        refine ⟨o ++ [⟨a.Row, a.Span.From, 1⟩, ⟨a.Row, a.Span.To, -1⟩], ?_, by simp; omega, by rw [AX]; simp⟩
        show mR _ _ _ _ = _
        simp only [mR, d1, cond_true, bD d2, d3, d4]
        exact bD (by simp only [List.length_cons, List.length_nil]; omega)
      · intro o _
        show mR _ _ _ _ = _
        simp only [mR, jB, cond_false]
        simp [peL]
  · simp

def nJ (l : List aM) : List aM × Int := if (dA l).2 ≠ 0 then ([], (dA l).2) else HF (dA l).1

theorem KN {l : List aM} (hl : okP l) : okL (dA l).1 := by
  unfold dA
  split
  · exact MB
  · split
    · exact MB
    · rename_i h
      exact YX (UF hl (by simp at h; omega))

theorem IN {l : List aM} (hl : okP l) (hn : l.length ≤ 1099511627776) : qH l = some (nJ l) := by
  unfold qH nJ
  rw [NL hl hn]
  simp only [Option.bind_some]
  by_cases h : (dA l).2 = 0
  · simp only [h, decide_true, Bool.not_true, cond_false, YU (KN hl), Option.bind_some, ne_eq, not_true_eq_false, if_false]
  · simp [h]

end Go.Abs
namespace Go.Abs
open Go
theorem BU {l : List aC} (h : nY l = true) (r : List aF) : look (groups l) r = bZ l r := mG (pS h).2.2 r

end Go.Abs
namespace Go.Abs
open Go
def cnt (t : Int) (l : List Int) : Int := (l.map fun x => if x ≤ t then 1 else 0).sum

theorem EF (t x : Int) (l : List Int) : cnt t (x :: l) = (if x ≤ t then 1 else 0) + cnt t l := by simp [cnt]

theorem LH (t : Int) (a b : List Int) : cnt t (a ++ b) = cnt t a + cnt t b := by simp [cnt]

theorem zP (t x : Int) : ∀ n : Nat, cnt t (List.replicate n x) = if x ≤ t then (n : Int) else 0
  | 0 => by simp [cnt]
  | n + 1 => by rw [List.replicate_succ, EF, zP t x n]; split <;> omega

theorem UC (t : Int) : ∀ f : List aB, val f t = cnt t (oC f) - cnt t (ends f)
  | [] => rfl
  | j :: f => by
    rw [cD, nK, zG, LH, LH, zP, zP, UC t f]
    split <;> omega

def spJ (ss : List aS) : List aB := ss.flatMap fun s => [⟨s.From, 1⟩, ⟨s.To, -1⟩]

theorem RG (s : aS) (ss : List aS) : spJ (s :: ss) = [⟨s.From, 1⟩, ⟨s.To, -1⟩] ++ spJ ss := rfl

theorem FM (s : aS) (ss : List aS) (t : Int) : val (spJ (s :: ss)) t = (if s.From ≤ t then 1 else 0) - (if s.To ≤ t then 1 else 0) + val (spJ ss) t := by
  rw [RG, xI, cD, cD, oV]
  simp only
  split <;> split <;> omega

theorem FL {d t : Int} (ht : t < d) : ∀ (B E : List Int), E.length ≤ B.length → val (spJ (pairs d B E)) t = cnt t B - cnt t E
  | [], [], _ => rfl
  | [], _ :: _, h => by simp at h
  | b :: bs, [], _ => by
    rw [pairs, FM, FL ht bs [] (by simp), EF]
    have : ¬ d ≤ t := by omega
    simp only [this, if_false, cnt, List.map_nil, List.sum_nil]
    omega
  | b :: bs, e :: es, h => by
    rw [pairs, FM, FL ht bs es (by simpa using h), EF, EF]
    simp only
    omega

theorem aBg {f : List aB} (h : yP 0 f) : (ends f).length ≤ (oC f).length := by
  rcases EW h with h | h
  · omega
  · subst h; simp [ends]

theorem XC {f : List aB} (h : yP 0 f) {t : Int} (ht : t < 1125899906842624) : val (spJ (sL f)) t = val f t := by
  rw [sL, FL ht _ _ (aBg h), UC]

theorem HY (d e : Int) : ∀ (n : Nat) (Q B E : List Int), Q.length = n → pairs d (Q ++ B) (List.replicate n e ++ E) = Q.map (fun b => ⟨b, e⟩) ++ pairs d B E
  | 0, Q, B, E, h => by
    have : Q = [] := List.length_eq_zero_iff.1 h
    subst this; simp
  | n + 1, [], B, E, h => by simp at h
  | n + 1, q :: Q, B, E, h => by
    simp only [List.cons_append, List.replicate_succ, pairs, List.map_cons, HY d e n Q B E (by simpa using h)]

theorem JF {d : Int} : ∀ {f : List aB} {last : Int} {Q : List Int}, tE last f → yP (Q.length : Int) f → (∀ q ∈ Q, q ≤ last) → (∀ q ∈ Q, q < d) → (∀ j ∈ f, j.At < d) → ∀ s ∈ pairs d (Q ++ oC f) (ends f), s.From < s.To ∧ s.To ≤ d ∧ (s.From ∈ Q ∨ s.From ∈ oC f)
  | [], last, Q, _, _, hq, hd, _, s, hs => by
    simp only [oC, ends, List.flatMap_nil, List.append_nil] at hs ⊢
    have key : ∀ Q : List Int, (∀ q ∈ Q, q < d) → ∀ s ∈ pairs d Q [], s.From < s.To ∧ s.To ≤ d ∧ s.From ∈ Q := by
      intro Q
      induction Q with
      | nil => intro _ s hs; simp [pairs] at hs
      | cons q Q ih =>
        intro hd s hs
        rw [pairs] at hs
        rcases List.mem_cons.1 hs with rfl | hs
        · exact ⟨hd q (by simp), Int.le_refl _, by simp⟩
        · obtain ⟨h1, h2, h3⟩ := ih (fun x hx => hd x (by simp [hx])) s hs
          exact ⟨h1, h2, by simp [h3]⟩
    obtain ⟨h1, h2, h3⟩ := key Q hd s hs
    exact ⟨h1, h2, .inl h3⟩
  | j :: r, last, Q, hr, hv, hq, hd, hf, s, hs => by
    have hj := hr.1
    have hjd := hf j (by simp)
    by_cases hn : 0 < j.Net
    · have h0 : (-j.Net).toNat = 0 := by omega
      rw [nK, zG, h0, List.replicate_zero, List.nil_append, ← List.append_assoc] at hs
      obtain ⟨h1, h2, h3⟩ := JF (d := d) (Q := Q ++ List.replicate j.Net.toNat j.At) hr.2 (by
          have := hv.2
          rw [show (((Q ++ List.replicate j.Net.toNat j.At).length : Nat) : Int) = (Q.length : Int) + j.Net by simp; omega]
          exact this) (fun q hq' => by
          rcases List.mem_append.1 hq' with h | h
          · have := hq q h; omega
          · rw [(List.mem_replicate.1 h).2]; exact Int.le_refl _) (fun q hq' => by
          rcases List.mem_append.1 hq' with h | h
          · exact hd q h
          · rw [(List.mem_replicate.1 h).2]; exact hjd) (fun k hk => hf k (by simp [hk])) s hs
      refine ⟨h1, h2, ?_⟩
      rw [nK, List.mem_append]
      rcases h3 with h3 | h3
      · rcases List.mem_append.1 h3 with h | h
        · exact .inl h
        · exact .inr (.inl h)
      · exact .inr (.inr h3)
    · have h0 : j.Net.toNat = 0 := by omega
      have hlen : (-j.Net).toNat ≤ Q.length := by have := hv.1; omega
      rw [nK, zG, h0, List.replicate_zero, List.nil_append] at hs
      have hQ : Q = Q.take (-j.Net).toNat ++ Q.drop (-j.Net).toNat := (List.take_append_drop _ _).symm
      rw [hQ, List.append_assoc, HY d j.At _ _ _ _ (by simp; omega)] at hs
      rcases List.mem_append.1 hs with hs | hs
      · obtain ⟨q, hq', rfl⟩ := List.mem_map.1 hs
        have hm := List.mem_of_mem_take hq'
        have := hq q hm
        exact ⟨by simp only; omega, by simp only; omega, .inl hm⟩
      · obtain ⟨h1, h2, h3⟩ := JF (d := d) (Q := Q.drop (-j.Net).toNat) hr.2 (by
            have := hv.2
            rw [show (((Q.drop (-j.Net).toNat).length : Nat) : Int) = (Q.length : Int) + j.Net by simp; omega]
            exact this) (fun q hq' => by have := hq q (List.mem_of_mem_drop hq'); omega) (fun q hq' => hd q (List.mem_of_mem_drop hq')) (fun k hk => hf k (by simp [hk])) s hs
        refine ⟨h1, h2, ?_⟩
        rw [nK, h0, List.replicate_zero, List.nil_append]
        rcases h3 with h3 | h3
        · exact .inl (List.mem_of_mem_drop h3)
        · exact .inr h3

theorem SN {f : List aB} (hf : fN f = true) (h : ∀ t, 0 ≤ val f t) {s : aS} (hs : s ∈ sL f) : JQ s = true := by
  have hp := WB hf
  obtain ⟨h1, h2, h3⟩ := JF (d := 1125899906842624) (Q := []) (lV.1 hf).2 (by simpa using GU hf h) (by simp) (by simp) (fun j hj => (hp j hj).2) s (by simpa [sL] using hs)
  rcases h3 with h3 | h3
  · simp at h3
  · obtain ⟨j, hj, h4⟩ := List.mem_flatMap.1 h3
    have e := (List.mem_replicate.1 h4).2
    have := hp j hj
    exact GC.2 (by omega)

theorem OS (q r : List aF) (ss : List aS) : bZ (peL (xX q ss)) r = if q = r then spJ ss else [] := by
  induction ss with
  | nil => simp [xX, peL, spJ, bZ]
  | cons s ss ih =>
    have : xX q (s :: ss) = ⟨q, s⟩ :: xX q ss := rfl
    rw [this, AX, oS, ih]
    by_cases e : q = r
    · simp only [e, if_true, RG]
      simp [bZ, jE]
    · simp [e, bZ]

theorem NJ {r : List aF} {t : Int} (ht : t < 1125899906842624) : ∀ {gs : List (List aF × List aB)}, rO gs → (∀ g ∈ gs, yP 0 g.2) → val (bZ (peL (tL gs)) r) t = val (look gs r) t
  | [], _, _ => rfl
  | g :: gs, hs, hg => by
    have hs' := List.pairwise_cons.1 hs
    rw [ED, VU, oS, xI, OS, oN, NJ ht hs'.2 fun q hq => hg q (by simp [hq])]
    by_cases e : g.1 = r
    · rw [if_pos e, if_pos e, XC (hg g (by simp)) ht, uD fun q hq => ?_, oV, Int.add_zero]
      intro h
      have this : iY g.1 q.1 < 0 := hs'.1 q hq
      rw [h, ← e] at this
      exact mE this
    · rw [if_neg e, if_neg e, oV, Int.zero_add]

theorem ZE {gs : List (List aF × List aB)} {p : aM} (h : p ∈ tL gs) : ∃ g ∈ gs, p.Row = g.1 ∧ p.Span ∈ sL g.2 := by
  obtain ⟨g, hg, h1⟩ := List.mem_flatMap.1 h
  obtain ⟨s, hs, rfl⟩ := List.mem_map.1 h1
  exact ⟨g, hg, rfl, hs⟩

theorem FQ {x : List aC} (ht : rV x = true) {p : aM} (h : p ∈ tL (groups x)) : pJ p = true := by
  obtain ⟨g, hg, h1, h2⟩ := ZE h
  obtain ⟨a, b⟩ := qP ht hg
  unfold pJ
  rw [h1, ((pS (rK.1 ht).1).2.1 g hg).1, SN a b h2]; rfl

theorem aBm {l : List aM} {e : aC} (h : e ∈ peL l) : ∃ p ∈ l, e = ⟨p.Row, p.Span.From, 1⟩ ∨ e = ⟨p.Row, p.Span.To, -1⟩ := by
  obtain ⟨p, hp, h1⟩ := List.mem_flatMap.1 h
  exact ⟨p, hp, by simpa using h1⟩

theorem aBH {l : List aM} (h : ∀ p ∈ l, pJ p = true) : (peL l).any unE = false ∧ (peL l).any CI = false := by
  have key : ∀ e ∈ peL l, mU e.Row = true ∧ (e.Net = 1 ∨ e.Net = -1) ∧ -1 ≤ e.At ∧ e.At ≤ 1125899906842624 := by
    intro e he
    obtain ⟨p, hp, h1⟩ := aBm he
    have hm := h p hp
    unfold pJ at hm
    rw [Bool.and_eq_true, GC] at hm
    rcases h1 with rfl | rfl
    · exact ⟨hm.1, .inl rfl, by simp only; omega, by simp only; omega⟩
    · exact ⟨hm.1, .inr rfl, by simp only; omega, by simp only; omega⟩
  refine ⟨List.any_eq_false.2 fun e he => ?_, List.any_eq_false.2 fun e he => ?_⟩
  · obtain ⟨h1, h2, _⟩ := key e he
    simp only [unE, h1, Bool.not_true, Bool.false_or, Bool.or_eq_true, decide_eq_true_eq]; omega
  · obtain ⟨_, _, h3, h4⟩ := key e he
    simp only [CI, Bool.or_eq_true, decide_eq_true_eq]; omega

theorem NM {l : List aM} (h : ∀ p ∈ l, pJ p = true) (hn : l.length ≤ 4096) : dA l = jC (peL l) := by
  unfold dA
  have : (l.any fun p => !pJ p) = false := List.any_eq_false.2 fun p hp => by simp [h p hp]
  rw [this]
  have h2 : decide (4096 < l.length) = false := by simp; omega
  rw [h2]
  simp only [Bool.false_eq_true, if_false]

theorem SY {x : List aC} (ht : rV x = true) : ∀ g ∈ groups x, yP 0 g.2 := fun _ hg => GU (qP ht hg).1 (qP ht hg).2

theorem RY {x : List aC} (ht : rV x = true) (hm : qB (groups x) ≤ 4096) : dA (tL (groups x)) = (x, 0) := by
  have hl := FY (groups x)
  have hmay := (rK.1 ht).1
  have hs := (pS hmay).2.2
  rw [NM (fun p hp => FQ ht hp) (by omega)]
  obtain ⟨u1, u2⟩ := aBH fun p hp => FQ ht hp
  refine aAd u1 u2 hmay fun r => ?_
  obtain ⟨v1, v2⟩ := OQ u1 u2 r
  refine ZZ v1 v2 (DP hmay r) fun t h1 h2 => ?_
  rw [NJ h2 hs (SY ht), BU hmay]

theorem val_last {f : List aB} (t : Int) : val f t - val f (t - 1) = ((f.filter fun j => decide (j.At = t)).map aB.Net).sum := by
  induction f with
  | nil => rfl
  | cons j f ih =>
    rw [cD, cD]
    by_cases e : j.At = t
    · rw [List.filter_cons_of_pos (by simpa using e), if_pos (by omega), if_neg (by omega), List.map_cons, List.sum_cons, ← ih]; omega
    · rw [List.filter_cons_of_neg (by simpa using e), ← ih]
      by_cases h : j.At ≤ t
      · rw [if_pos h, if_pos (by omega)]; omega
      · rw [if_neg h, if_neg (by omega)]; omega

theorem PM : ∀ f : List aB, (f.map aB.Net).sum ≤ eP f
  | [] => by simp [eP]
  | j :: f => by rw [List.map_cons, List.sum_cons, oD]; have := PM f; split <;> omega

theorem HR (p : aB → Bool) : ∀ f : List aB, eP f = eP (f.filter p) + eP (f.filter fun j => !p j)
  | [] => rfl
  | j :: f => by
    rw [oD, HR p f]
    cases h : p j
    · rw [List.filter_cons_of_neg (by simp [h]), List.filter_cons_of_pos (by simp [h]), oD]; omega
    · rw [List.filter_cons_of_pos (by simp [h]), List.filter_cons_of_neg (by simp [h]), oD]; omega

theorem FJ {f : List aB} {p t : Int} (h : p ≤ t) : val (f.filter fun j => !decide (j.At = p)) t = val f t - (val f p - val f (p - 1)) := by
  induction f with
  | nil => simp [val]
  | cons j f ih =>
    rw [cD, cD, cD]
    by_cases e : j.At = p
    · rw [List.filter_cons_of_neg (by simp [e]), ih, if_pos (by omega), if_pos (by omega), if_neg (by omega)]; omega
    · rw [List.filter_cons_of_pos (by simp [e]), cD, ih]
      by_cases h2 : j.At ≤ p
      · rw [if_pos (by omega), if_pos h2, if_pos (by omega)]; omega
      · rw [if_neg h2, if_neg (show ¬ j.At ≤ p - 1 by omega)]; omega

theorem UM : ∀ {g f : List aB} {last : Int}, Up last g → (∀ t, last < t → t < 1125899906842624 → val g t - val g last = val f t - val f last) → eP g ≤ eP f
  | [], f, _, _, _ => by rw [show eP [] = 0 from rfl]; exact pG f
  | j :: g, f, last, hu, hv => by
    have hj := hu.1
    rw [oD, HR (fun k => decide (k.At = j.At)) f]
    have h0 : val (j :: g) last = 0 := hu.tU (Int.le_refl _)
    have hjn : j.Net = ((f.filter fun k => decide (k.At = j.At)).map aB.Net).sum := by
      rw [← val_last]
      have h1 := hv j.At hj.1 hj.2.1
      have g1 : val (j :: g) j.At = j.Net := by rw [cD, if_pos (Int.le_refl _), hu.2.tU (Int.le_refl _)]; omega
      by_cases hl : last < j.At - 1
      · have h2 := hv (j.At - 1) hl (by omega)
        have g2 : val (j :: g) (j.At - 1) = 0 := by rw [cD, if_neg (by omega), hu.2.tU (by omega)]; omega
        omega
      · have : j.At - 1 = last := by omega
        rw [this]; omega
    have ih := UM (g := g) (f := f.filter fun k => !decide (k.At = j.At)) (last := j.At) hu.2 fun t h1 h2 => by
      have a1 := hv t (by omega) h2
      have a2 := hv j.At hj.1 hj.2.1
      have b1 : val (j :: g) t = j.Net + val g t := by rw [cD, if_pos (by omega)]
      have b2 : val (j :: g) j.At = j.Net + val g j.At := by rw [cD, if_pos (Int.le_refl _)]
      rw [FJ (by omega), FJ (Int.le_refl _)]
      omega
    have h3 := PM (f.filter fun k => decide (k.At = j.At))
    have h4 := pG (f.filter fun k => decide (k.At = j.At))
    split <;> omega

theorem XY {f : List aB} (ht : ∀ j ∈ f, -2 < j.At) : eP (wP f) ≤ eP f :=
  UM (EX ht) fun t h1 h2 => by
    rw [BX ht h1 h2, (EX ht).tU (Int.le_refl _), wY (f := f) (t := -2) fun j hj => ht j hj]

def ofRow (r : List aF) (l : List aM) : Nat := (l.filter fun p => decide (p.Row = r)).length

theorem UP (r : List aF) : ∀ l : List aM, eP (bZ (peL l) r) = (ofRow r l : Nat)
  | [] => rfl
  | p :: l => by
    rw [AX, oS, QE, UP r l]
    unfold ofRow
    by_cases e : p.Row = r
    · rw [List.filter_cons_of_pos (by simpa using e)]
      simp [bZ, e, jE, eP]
      omega
    · rw [List.filter_cons_of_neg (by simpa using e)]
      simp [bZ, e, eP]

theorem JW {α : Type} (p : α → Bool) : ∀ l : List α, (l.filter p).length + (l.filter fun x => !p x).length = l.length
  | [] => rfl
  | a :: l => by
    have := JW p l
    cases h : p a
    · rw [List.filter_cons_of_neg (by simp [h]), List.filter_cons_of_pos (by simp [h])]; simp only [List.length_cons]; omega
    · rw [List.filter_cons_of_pos (by simp [h]), List.filter_cons_of_neg (by simp [h])]; simp only [List.length_cons]; omega

theorem NZ : ∀ {rs : List (List aF)}, rs.Nodup → ∀ l : List aM, (rs.map fun r => ofRow r l).sum ≤ l.length
  | [], _, l => by simp
  | r :: rs, hn, l => by
    have hn' := List.nodup_cons.1 hn
    have h1 := NZ hn'.2 (l.filter fun p => !decide (p.Row = r))
    have h2 : (rs.map fun q => ofRow q l) = rs.map fun q => ofRow q (l.filter fun p => !decide (p.Row = r)) := by
      refine List.map_congr_left fun q hq => ?_
      have hne : q ≠ r := fun e => hn'.1 (e ▸ hq)
      unfold ofRow
      rw [List.filter_filter]
      congr 1
      refine List.filter_congr fun p _ => ?_
      by_cases e : p.Row = q
      · have : p.Row ≠ r := fun h => hne (e ▸ h)
        simp [e, hne]
      · simp [e]
    rw [List.map_cons, List.sum_cons, h2]
    have h3 : ofRow r l + (l.filter fun p => !decide (p.Row = r)).length = l.length := by
      unfold ofRow
      exact JW _ l
    omega

theorem WA {rs : List (List aF)} (h : DU rs) : rs.Nodup := by
  unfold List.Nodup
  exact h.imp fun {a b} hab e => by subst e; exact mE hab

theorem tQ {l : List aM} (h : (dA l).2 = 0) : (∀ p ∈ l, pJ p = true) ∧ l.length ≤ 4096 ∧ dA l = jC (peL l) := by
  unfold dA at h
  split at h
  · simp at h
  · rename_i h1
    split at h
    · simp at h
    · rename_i h2
      have a : ∀ p ∈ l, pJ p = true := fun p hp => by
        rw [Bool.not_eq_true, List.any_eq_false] at h1
        simpa using h1 p hp
      have b : l.length ≤ 4096 := by simp at h2; omega
      exact ⟨a, b, NM a b⟩

def sP (r : List aF) (t : Int) (l : List aM) : Int := (l.map fun p => if p.Row = r ∧ p.Span.From ≤ t ∧ t < p.Span.To then 1 else 0).sum

theorem yY (r : List aF) (t : Int) (p : aM) (l : List aM) : sP r t (p :: l) = (if p.Row = r ∧ p.Span.From ≤ t ∧ t < p.Span.To then 1 else 0) + sP r t l := by simp [sP]

theorem FB (r : List aF) (t : Int) : ∀ l, 0 ≤ sP r t l
  | [] => by simp [sP]
  | p :: l => by rw [yY]; have := FB r t l; split <;> omega

theorem RL {r : List aF} {t : Int} : ∀ {l : List aM}, (∀ p ∈ l, pJ p = true) → val (bZ (peL l) r) t = sP r t l
  | [], _ => rfl
  | p :: l, h => by
    rw [AX, oS, xI, RL fun q hq => h q (by simp [hq]), yY]
    have hm := h p (by simp)
    unfold pJ at hm
    rw [Bool.and_eq_true, GC] at hm
    by_cases e : p.Row = r
    · have : bZ [⟨p.Row, p.Span.From, 1⟩, ⟨p.Row, p.Span.To, -1⟩] r = [⟨p.Span.From, 1⟩, ⟨p.Span.To, -1⟩] := by simp [bZ, e, jE]
      rw [this, cD, cD, oV]
      simp only [e, true_and]
      split <;> split <;> split <;> omega
    · have : bZ [⟨p.Row, p.Span.From, 1⟩, ⟨p.Row, p.Span.To, -1⟩] r = [] := by simp [bZ, e]
      rw [this, oV, if_neg (by simp [e])]

theorem tP {l : List aM} (h : (dA l).2 = 0) : rV (dA l).1 = true := by
  obtain ⟨a, b, c⟩ := tQ h
  rw [c] at h ⊢
  exact TH h fun r t _ _ => by rw [RL a]; exact FB ..

theorem EK {l : List aM} (h : (dA l).2 = 0) (r : List aF) {t : Int} (h1 : -2 < t) (h2 : t < 1125899906842624) : val (bZ (dA l).1 r) t = sP r t l := by
  obtain ⟨a, b, c⟩ := tQ h
  rw [c] at h ⊢
  rw [XK h r h1 h2, RL a]

theorem II {l : List aM} (h : (dA l).2 = 0) : qB (groups (dA l).1) ≤ l.length := by
  have ht := tP h
  have hmay := (rK.1 ht).1
  rw [← TF hmay]
  have h1 : qB (tD (dA l).1) ≤ (((rowsOf (dA l).1).map fun r => ofRow r l).sum : Nat) := by
    unfold qB tD
    rw [List.map_map]
    induction rowsOf (dA l).1 with
    | nil => simp
    | cons r rs ih =>
      simp only [List.map_cons, List.sum_cons, Function.comp]
      have : eP (bZ (dA l).1 r) ≤ (ofRow r l : Nat) := by
        obtain ⟨a, b, c⟩ := tQ h
        have h' := h
        rw [c] at h' ⊢
        rw [CK h', ← UP]
        exact XY (xK h' r)
      omega
  have h2 := NZ (WA (ER (dA l).1)) l
  omega

theorem JN {l : List aM} : nJ l = if (dA l).2 = 0 then (tL (groups (dA l).1), 0) else ([], (dA l).2) := by
  unfold nJ
  by_cases h : (dA l).2 = 0
  · rw [if_neg (by simp [h]), if_pos h]
    have ht := tP h
    have hm := II h
    have hn := (tQ h).2.1
    unfold HF
    rw [(rK.1 ht).1, ht]
    have : decide (4096 < qB (groups (dA l).1)) = false := by simp; omega
    rw [this]
    simp only [Bool.not_true, Bool.false_eq_true, if_false]
  · rw [if_pos h, if_neg h]

theorem JJ {l : List aM} (h : (nJ l).2 = 0) : (dA l).2 = 0 ∧ nJ l = (tL (groups (dA l).1), 0) ∧ dA (nJ l).1 = ((dA l).1, 0) ∧ (nJ l).1.length ≤ l.length := by
  rw [JN] at h
  split at h
  · rename_i he
    have hp : nJ l = (tL (groups (dA l).1), 0) := by rw [JN, if_pos he]
    have hm := II he
    have hn := (tQ he).2.1
    have hl := FY (groups (dA l).1)
    refine ⟨he, hp, ?_, by rw [hp]; simp only; omega⟩
    rw [hp]
    exact RY (tP he) (by omega)
  · rename_i he
    exact absurd h he

end Go.Abs
namespace Go.Abs
open Go
theorem rB (x y : aM) : x = y ↔ (x.Span.From = y.Span.From ∧ x.Span.To = y.Span.To) ∧ x.Row = y.Row := by
  obtain ⟨r, a, b⟩ := x
  obtain ⟨q, c, d⟩ := y
  simp only [aM.mk.injEq, aS.mk.injEq]
  constructor
  · rintro ⟨h1, h2, h3⟩; exact ⟨⟨h2, h3⟩, h1⟩
  · rintro ⟨⟨h2, h3⟩, h1⟩; exact ⟨h1, h2, h3⟩

theorem RZ (x y : aM) (hl : x.Row.length ≤ 17592186044416) : nU x y = some (decide (x = y)) := by
  unfold nU
  rw [EV _ _ hl]
  by_cases h : x.Span.From = y.Span.From ∧ x.Span.To = y.Span.To
  · by_cases h2 : x.Row = y.Row
    · simp [h.1, h.2, h2, cV, rB]
    · simp [h.1, h.2, h2, cV, rB]
  · have : ((decide (x.Span.From = y.Span.From)) && ((decide (x.Span.To = y.Span.To)) && true)) = false := by
      simp only [Bool.and_true, Bool.and_eq_false_iff, decide_eq_false_iff_not]
      by_cases h1 : x.Span.From = y.Span.From
      · exact .inr fun h2 => h ⟨h1, h2⟩
      · exact .inl h1
    have hn : ¬ x = y := fun e => h ((rB x y).1 e).1
    rw [this]; simp [cV, hn]

theorem TJ {a b : List aM} (hl : okP a) : sY a b = some (decide (a = b)) := by
  unfold sY cN
  have hlen := hl.1
  by_cases he : a.length = b.length
  · rw [KY he, cond_false]
    unfold cM
    have := JV (f := a) (g := b) (body := fun s => bY (fun y0 y1 => nU y0 y1) b a (a.length : Nat) s) he ?_ ?_ a.length 0 rfl (Nat.zero_le _)
    · simp only [Int.natCast_zero, List.drop_zero] at this
      rw [this]
      by_cases h : a = b <;> simp [h, cF]
    · intro i x y hx hy
      obtain ⟨d1, d2, d3, d4⟩ := idx hx (by omega)
      obtain ⟨_, e2, e3, _⟩ := idx hy (by omega)
      have hr := hl.2 x (List.mem_of_getElem? hx)
      simp only [bY, d1, cond_true, bD d2, bD e2, d3, e3, d4, RZ x y (by omega), Option.bind_some]
      by_cases h : x = y <;> simp [h]
    · simp only [bY, jB, cond_false]
  · rw [LD he, cond_true]
    have : a ≠ b := fun h => he (by rw [h])
    simp [this]

theorem SM {a b : List aM} (hl : okP a) : rD a b = some (decide (a = b)) := by
  unfold rD
  have hlen := hl.1
  by_cases he : a.length = b.length
  · rw [KY he, cond_false]
    unfold wM
    have := JV (f := a) (g := b) (body := fun s => pO a b s) he ?_ ?_ a.length 0 rfl (Nat.zero_le _)
    · simp only [Int.natCast_zero, List.drop_zero] at this
      rw [this]
      by_cases h : a = b <;> simp [h, sH]
    · intro i x y hx hy
      obtain ⟨d1, d2, d3, d4⟩ := idx hx (by omega)
      obtain ⟨_, e2, e3, _⟩ := idx hy (by omega)
      have hr := hl.2 x (List.mem_of_getElem? hx)
      simp only [pO, d1, cond_true, bD d2, bD e2, d3, e3, d4]
      rw [bD fun _ => d2, bD fun _ => e2, FG _ _ (by omega)]
      by_cases h : x.Span.From = y.Span.From ∧ x.Span.To = y.Span.To
      · by_cases h2 : x.Row = y.Row
        · simp [h.1, h.2, h2, cV, rB]
        · simp [h.1, h.2, h2, cV, rB]
      · have : ((decide (x.Span.From = y.Span.From)) && ((decide (x.Span.To = y.Span.To)) && true)) = false := by
          simp only [Bool.and_true, Bool.and_eq_false_iff, decide_eq_false_iff_not]
          by_cases h1 : x.Span.From = y.Span.From
          · exact .inr fun h2 => h ⟨h1, h2⟩
          · exact .inl h1
        have hn : ¬ x = y := fun e => h ((rB x y).1 e).1
        rw [this]; simp [cV, hn]
    · simp only [pO, jB, cond_false]
  · rw [LD he, cond_true]
    have : a ≠ b := fun h => he (by rw [h])
    simp [this]

theorem RP {l : List aM} (hl : okP l) (r : List aF) (t : Int) : pU l r t = some (sP r t l) := by
  have hlen := hl.1
  unfold pU uW
  rw [uU (l := l) (body := fun s : Int × Int => lU l r t s.1 s.2) (fun n i => (n, i)) (fun n q => n + sP r t q) (fun n q => 0 ≤ n ∧ n + q.length ≤ 3518437208783 ∧ ∀ p ∈ q, p.Row.length ≤ 4398046510976) 0 ?_ ?_ ⟨by omega, by omega, hl.2⟩]
  · simp [rA]
  · intro i a q n ha hi
    left
    obtain ⟨d1, d2, d3, d4⟩ := idx ha (by omega)
    obtain ⟨h0, h1, h2⟩ := hi
    have hr := h2 a (by simp)
    simp only [List.length_cons] at h1
    show ∃ s', lU _ _ _ _ _ = _ ∧ _
    simp only [lU, d1, cond_true, bD d2, d3, FG _ _ (show a.Row.length ≤ 17592186044416 by omega), Option.bind_some]
    rw [bD fun _ => d2, bD fun _ => d2]
    by_cases h : a.Row = r ∧ a.Span.From ≤ t ∧ t < a.Span.To
    · refine ⟨n + 1, ?_, ⟨by omega, by omega, fun p hp => h2 p (by simp [hp])⟩, by rw [yY, if_pos h]; omega⟩
      simp only [h.1, h.2.1, h.2.2, decide_true, Bool.and_self, cond_true, oU, d4]
      rw [fT (by omega) (by omega)]
    · refine ⟨n, ?_, ⟨by omega, by omega, fun p hp => h2 p (by simp [hp])⟩, by rw [yY, if_neg h]; omega⟩
      have : ((decide (a.Row = r) && decide (a.Span.From ≤ t)) && decide (t < a.Span.To)) = false := by
        apply Classical.byContradiction
        intro hc
        simp only [Bool.not_eq_false, Bool.and_eq_true, decide_eq_true_eq] at hc
        exact h ⟨hc.1.1, hc.1.2, hc.2⟩
      simp only [this, cond_false, oU, d4]
  · intro n _
    show lU _ _ _ _ _ = _
    simp only [lU, jB, cond_false]
    simp [sP]

def lY (a b : Int) : aM := ⟨[⟨1, 1, ByteArray.empty⟩], ⟨a, b⟩⟩

theorem aAc (a b : Int) : jN a b = some (lY a b) := rfl

theorem KO {l : List aM} (h : l.length ≤ 4096) (hr : ∀ e ∈ l, e.Row.length ≤ 8) : okP l := ⟨by omega, fun e he => by have := hr e he; omega⟩

theorem aBi : nJ [lY 5 9, lY 2 5] = ([lY 2 9], 0) := by decide +kernel

theorem aBs : nJ [lY 1 10, lY 3 5] = ([lY 1 5, lY 3 10], 0) := by decide +kernel

theorem GL : pF = some true := by
  unfold pF
  simp only [aAc, Option.bind_some]
  rw [IN (l := [lY 5 9, lY 2 5]) (KO (by simp) (by simp [lY])) (by simp), aBi]
  simp only [Option.bind_some]
  rw [IN (l := [lY 1 10, lY 3 5]) (KO (by simp) (by simp [lY])) (by simp), aBs]
  simp only [Option.bind_some]
  have g1 : sY [lY 2 9] [lY 2 9] = some (decide ([lY 2 9] = [lY 2 9])) := TJ (KO (by simp) (by simp [lY]))
  have g2 : rD [lY 1 5, lY 3 10] [lY 1 5, lY 3 10] = some (decide ([lY 1 5, lY 3 10] = [lY 1 5, lY 3 10])) := SM (KO (by simp) (by simp [lY]))
  have h1 : pJ (lY (-1) 0) = true := by decide +kernel
  have h2 : pJ (lY 3 3) = false := by decide +kernel
  simp [cV, g1, g2, TV, h1, h2]

end Go.Abs
namespace Go.Abs
open Go
theorem aB1 {l : List aM} (m : ∀ a ∈ l, tY a) (y : List.length l * 40 ≤ 140737488351232) : okP l :=
  ⟨by omega, fun e he => by have := (m e he).1.2; omega⟩

theorem PV {p : aM} (h : pJ p = true) : p.Row.length ≤ 8 := by
  unfold pJ at h
  rw [Bool.and_eq_true] at h
  exact (LY h.1).1

theorem aBb {l : List aM} (h : ∀ p ∈ l, pJ p = true) (hn : l.length ≤ 1000000) : okP l :=
  ⟨by omega, fun e he => by have := PV (h e he); omega⟩

theorem XX {l : List aM} (h : (nJ l).2 = 0) : ∀ p ∈ (nJ l).1, pJ p = true := by
  obtain ⟨h1, h2, _, _⟩ := JJ h
  rw [h2]
  exact fun p hp => FQ (tP h1) hp

theorem aAk {l : List aM} (h : (nJ l).2 = 0) : (nJ l).1.length ≤ 4096 := by
  obtain ⟨h1, _, _, h4⟩ := JJ h
  have := (tQ h1).2.1
  omega

theorem YN {l : List aM} (h : (nJ l).2 = 0) : okP (nJ l).1 := aBb (XX h) (by have := aAk h; omega)

theorem WI {l : List aM} (h : (nJ l).2 = 0) (r : List aF) {t : Int} (h1 : -2 < t) (h2 : t < 1125899906842624) : sP r t (nJ l).1 = sP r t l := by
  obtain ⟨e1, _, e3, _⟩ := JJ h
  rw [← EK e1 r h1 h2, ← EK (by rw [e3]) r h1 h2, e3]

theorem MW (l : List aM) : (nJ l).2 = (dA l).2 := by
  rw [JN]
  split
  · rename_i h; exact h.symm
  · rfl

end Go.Abs
namespace Go.Abs
open Go
theorem MP (l0 : (List aM)) (m0 : ∀ a ∈ l0, tY a) (y0 : List.length l0 * 40 ≤ 140737488351232) (a1 : Int) (w1 : CE a1) : qM l0 a1 = some true := by
  have k0 := aB1 m0 y0
  unfold qM
  cases c : (((decide ((200 : Int) < ((List.length l0 : Nat) : Int))) || (decide (a1 < (-1 : Int)))) || (decide ((1125899906842624 : Int) ≤ a1)))
  · simp only [Bool.or_eq_false_iff, decide_eq_false_iff_not] at c
    obtain ⟨⟨c1, c2⟩, c3⟩ := c
    have hn : l0.length ≤ 1099511627776 := by omega
    rw [cond_false, IN k0 hn]
    simp only [Option.bind_some]
    rw [NL k0 hn]
    simp only [Option.bind_some, MW]
    by_cases e : (dA l0).2 = 0
    · have ep : (nJ l0).2 = 0 := by rw [MW, e]
      simp only [e, decide_true, Bool.not_true, Bool.or_self, cond_false, qC]
      have hx := KN k0
      have ht := tP e
      have hm := (rK.1 ht).1
      rw [aBz (l := l0) (fun i => i) (fun _ => false) (.inr false) (.inl ()) ?_ ?_]
      · simp [nO, GL]
      · intro i x hi
        obtain ⟨e1, e2, e3, e4⟩ := idx hi (by omega)
        have hp := (tQ e).1 x (List.mem_of_getElem? hi)
        have hr : mU x.Row = true := by unfold pJ at hp; rw [Bool.and_eq_true] at hp; exact hp.1
        have hrl := PV hp
        show jK _ _ _ _ _ = _
        simp only [jK, e1, cond_true, bD e2, e3, e4, RP k0, RP (YN ep), Option.bind_some]
        rw [bD fun _ => e2, WI ep x.Row (by omega) (by omega), ZL hx (by omega)]
        have hj : KW (dA l0).1 x.Row = bZ (dA l0).1 x.Row := by
          unfold KW
          rw [hr, hm]
          exact BU hm x.Row
        simp only [decide_true, Bool.not_true, Bool.not_false, cV, cond_true, Option.bind_some, hj, aAv, DP hm x.Row, if_true, EK e x.Row (show -2 < a1 by omega) (show a1 < 1125899906842624 by omega), Bool.or_self, cond_false, Bool.false_eq_true, if_false]
      · show jK _ _ _ _ _ = _
        simp only [jK, jB, cond_false]
    · simp [GL, e]
  · simp [GL]

end Go.Abs
