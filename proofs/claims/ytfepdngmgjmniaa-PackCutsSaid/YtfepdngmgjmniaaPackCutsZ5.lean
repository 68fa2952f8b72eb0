/- What the law PackCuts stands on: the framework, the given functions as plain functions, their walks, and the plain laws; part 5. -/
import Derived.Test.YtfepdngmgjmniaaPackCutsZ4
set_option linter.unusedSimpArgs false
set_option linter.unusedVariables false
namespace Go.Abs
open Go
variable {α : Type} [Inhabited α] {ok : α → Prop} {le : α → α → Prop} {cmp : α → α → Option Int}
theorem KX (C : Cmp ok le cmp) {d : List α} (ho : Oks ok d) (hl : d.length ≤ 1099511627776) : ∃ r, r.Perm d ∧ Srt le r ∧ vR d ((d.length : Nat) : Int) cmp = some r := by
  obtain ⟨G1, G2, g1, g2, g3, g4⟩ := aAj C (n1 := ((d.length : Nat) : Int)) d.length [] d (Nat.le_refl _) ho (by simp) (by simpa using hl)
  have hlen := g1.length_eq
  simp only [List.length_append] at hlen
  have og := ho.perm g1
  obtain ⟨D, d1, d2, d3⟩ := VT C (P := G1) (A := G2) (T := []) (a := ((G1.length : Nat) : Int)) (b := ((d.length : Nat) : Int)) rfl (by congr 1; omega) (fun z hz => og z (by simp [hz])) (by simp only [List.length_append, List.length_nil]; omega)
  have hp : (G1 ++ D).Perm d := (d1.append_left G1).trans g1
  obtain ⟨r, r1, r2, r3⟩ := UO C (G1 ++ D).length (G1 ++ D) 20 (by omega) (by omega) (ho.perm hp) (g3 D (by rw [d1.length_eq]; omega) d2) (by rw [hp.length_eq]; exact hl)
  refine ⟨r, r1.trans hp, r2, ?_⟩
  simp only [List.nil_append, List.length_nil, Nat.zero_add, Int.natCast_zero] at g4
  unfold vR xR
  have g4' : lp (fun s : List α × Int × Int => lQ cmp ((d.length : Nat) : Int) 20 s.1 s.2.1 s.2.2) (d, (0 : Int), (20 : Int)) = some (G1 ++ G2, ((G1.length : Nat) : Int)) := g4
  rw [g4']
  simp only [Option.bind_some, xT]
  rw [show G1 ++ G2 = G1 ++ G2 ++ [] by simp, d3]
  simp only [Option.bind_some, xP, List.append_nil]
  rw [hp.length_eq] at r3
  have r3' : lp (fun s : List α × Int => jF cmp ((d.length : Nat) : Int) s.1 s.2) (G1 ++ D, (20 : Int)) = some r := r3
  rw [r3']; rfl

end Go.Abs
namespace Go.Abs
open Go
def FF (n : Int) : Bool := decide (n ≤ 1048576) && decide (-1048576 ≤ n)

theorem RJ (n : Int) : uI n = some (FF n) := rfl

def GN (last : Int) (j : aB) : Bool := decide (j.At ≤ last) || decide (1125899906842624 ≤ j.At) || decide (j.Net = 0) || !FF j.Net

def chk (last : Int) : List aB → Bool
  | [] => true
  | j :: r => !GN last j && chk j.At r

def mM (f : List aB) : Bool := decide (f.length ≤ 1024) && chk (-2) f

theorem PG {f : List aB} {i : Nat} {a : aB} {last : Int} (ha : f[i]? = some a) (hl : f.length < 4611686018427387904) :
    lR f (f.length : Nat) last i = some (if GN last a then .inr (.inr false) else .inl (a.At, ((i + 1 : Nat) : Int))) := by
  obtain ⟨d1, d2, d3, d4⟩ := idx ha hl
  simp only [lR, d1, cond_true, bE d2, d3, d4, RJ]
  unfold GN
  cases h : (decide (a.At ≤ last) || decide (1125899906842624 ≤ a.At) || decide (a.Net = 0)) <;> cases h2 : FF a.Net <;> simp [cL]

theorem NQ : ∀ (f : List aB) (last : Int), uS (fun last (j : aB) => some (if GN last j then .inr (.inr false) else .inl j.At)) (fun _ => (.inl () : Unit ⊕ Bool)) last f = some (if chk last f then .inl () else .inr false)
  | [], last => by simp [uS, chk]
  | j :: r, last => by
    cases h : GN last j
    · rw [SZ (s' := j.At) (by simp [h])]
      rw [NQ r j.At]
      simp [chk, h]
    · rw [SK (x := .inr false) (by simp [h])]
      simp [chk, h]

theorem HP (f : List aB) : nP f = some (mM f) := by
  unfold nP mM
  by_cases hl : f.length ≤ 1024
  · have h1 : decide ((1024 : Int) < ((f.length : Nat) : Int)) = false := by simp; omega
    rw [h1, cond_false]
    unfold xH
    have key := WN (l := f) (body := fun s : Int × Int => lR f (f.length : Nat) s.1 s.2) (fun last i => (last, i)) _ _
      (fun i a s ha => by
        constructor
        · intro s' hs
          show lR f (f.length : Nat) s i = _
          rw [PG ha (by omega)]
          split at hs <;> simp_all
        · intro x hs
          show lR f (f.length : Nat) s i = _
          rw [PG ha (by omega)]
          split at hs <;> simp_all)
      (fun s => by show lR f (f.length : Nat) s (f.length : Nat) = _; simp only [lR, iP, cond_false]) (NQ f (-2))
    rw [key]
    cases h : chk (-2) f <;> simp [uM, hl]
  · have h1 : decide ((1024 : Int) < ((f.length : Nat) : Int)) = true := by simp; omega
    rw [h1, cond_true]
    simp [hl]

theorem SF {last : Int} {j : aB} : GN last j = false ↔ last < j.At ∧ j.At < 1125899906842624 ∧ j.Net ≠ 0 ∧ j.Net ≤ 1048576 ∧ -1048576 ≤ j.Net := by
  simp [GN, FF]
  omega

def wI (last : Int) : List aB → Prop
  | [] => True
  | j :: r => (last < j.At ∧ j.At < 1125899906842624 ∧ j.Net ≠ 0 ∧ j.Net ≤ 1048576 ∧ -1048576 ≤ j.Net) ∧ wI j.At r

theorem RW : ∀ {f : List aB} {last : Int}, chk last f = true ↔ wI last f
  | [], last => by simp [chk, wI]
  | j :: r, last => by simp [chk, wI, SF, RW]

theorem tN {f : List aB} : mM f = true ↔ f.length ≤ 1024 ∧ wI (-2) f := by simp [mM, RW]

theorem wI.above : ∀ {f : List aB} {last : Int}, wI last f → ∀ j ∈ f, last < j.At ∧ j.At < 1125899906842624 ∧ j.Net ≠ 0 ∧ j.Net ≤ 1048576 ∧ -1048576 ≤ j.Net
  | [], _, _, j, hj => by simp at hj
  | a :: r, last, h, j, hj => by
    rcases List.mem_cons.1 hj with rfl | hj
    · exact h.1
    · have := h.2.above j hj
      have h1 := h.1.1
      exact ⟨by omega, this.2⟩

def val (f : List aB) (t : Int) : Int := (f.map fun j => if j.At ≤ t then j.Net else 0).sum

theorem vU (t : Int) : val [] t = 0 := rfl

theorem dK (j : aB) (r : List aB) (t : Int) : val (j :: r) t = (if j.At ≤ t then j.Net else 0) + val r t := by simp [val]

theorem JF (f g : List aB) (t : Int) : val (f ++ g) t = val f t + val g t := by simp [val]

theorem yD {f : List aB} {t : Int} (h : ∀ j ∈ f, t < j.At) : val f t = 0 := by
  induction f with
  | nil => rfl
  | cons j r ih =>
    rw [dK, ih (fun k hk => h k (List.mem_cons_of_mem _ hk))]
    have := h j (List.mem_cons_self ..)
    rw [if_neg (by omega)]; rfl

theorem YZ (f : List aB) : rQ f = some (if mM f then (f, 0) else ([], 7)) := by
  unfold rQ
  rw [HP]
  cases h : mM f <;> simp

end Go.Abs
namespace Go.Abs
open Go
section both
variable {op : Int → Int → Option Int} {f g r : List aB} {out : List aB} {a b was t : Int} {j : aB}
end both
def emit (p v was : Int) : List aB := if v = was then [] else [⟨p, v - was⟩]

def xU (was : Int) : List (Int × Int) → List aB
  | [] => []
  | x :: r => emit x.1 x.2 was ++ xU x.2 r

def merge (f g : List aB) (a b : Int) : List (Int × Int × Int) :=
  match f, g with
  | [], [] => []
  | j :: f, [] => (j.At, a + j.Net, b) :: merge f [] (a + j.Net) b
  | [], k :: g => (k.At, a, b + k.Net) :: merge [] g a (b + k.Net)
  | j :: f, k :: g =>
    if j.At < k.At then (j.At, a + j.Net, b) :: merge f (k :: g) (a + j.Net) b
    else if k.At < j.At then (k.At, a, b + k.Net) :: merge (j :: f) g a (b + k.Net)
    else (j.At, a + j.Net, b + k.Net) :: merge f g (a + j.Net) (b + k.Net)

termination_by f.length + g.length
end Go.Abs
namespace Go.Abs
open Go
def comb (OP : Int → Int → Int) (f g : List aB) : List aB := xU 0 ((merge f g 0 0).map fun x => (x.1, OP x.2.1 x.2.2))

def told (f : List aB) : List aB × Int := if mM f then (f, 0) else ([], 7)

theorem XP (f : List aB) : rQ f = some (told f) := YZ f

def two (OP : Int → Int → Int) (f g : List aB) : List aB × Int := if mM f && mM g then told (comb OP f g) else ([], 2)

end Go.Abs
namespace Go.Abs
open Go
theorem XV (p v was t : Int) : val (emit p v was) t = if p ≤ t then v - was else 0 := by
  unfold emit
  by_cases h : v = was
  · rw [if_pos h, vU, h]; split <;> omega
  · rw [if_neg h, dK, vU]; simp

theorem wI.yL {l t : Int} {f : List aB} (h : wI l f) (ht : t ≤ l) : val f t = 0 := yD fun j hj => by have := (h.above j hj).1; omega

end Go.Abs
namespace Go.Abs
open Go
def UA (f : List aB) : Int := (f.map aB.Net).sum

def JP (t : Int) : List aB → List aB
  | [] => []
  | j :: r => if t ≤ j.At then [] else j :: JP t r

def aft (t : Int) : List aB → List aB
  | [] => []
  | j :: r => if t ≤ j.At then j :: r else aft t r

def aAk (t : Int) (f : List aB) : List aB := JP t f ++ (if UA (JP t f) = 0 then [] else [⟨t, -UA (JP t f)⟩])

def ahead (f : List aB) (t : Int) : List aB × Int :=
  if mM f then (if 1125899906842624 ≤ t then (f, 0) else told (aAk t f)) else ([], 2)

end Go.Abs
namespace Go.Abs
open Go
def aAQ (t : Int) (f : List aB) : List aB := (if UA (JP t f) = 0 then [] else [⟨-1, UA (JP t f)⟩]) ++ aft t f

def rest (f : List aB) (t : Int) : List aB × Int :=
  if mM f then (if 1125899906842624 ≤ t then ([], 0) else if t ≤ -1 then (f, 0) else told (aAQ t f)) else ([], 2)

end Go.Abs
namespace Go.Abs
open Go
def Up (last : Int) : List aB → Prop
  | [] => True
  | j :: r => (last < j.At ∧ j.At < 1125899906842624 ∧ j.Net ≠ 0) ∧ Up j.At r

theorem Up.above : ∀ {f : List aB} {last : Int}, Up last f → ∀ j ∈ f, last < j.At ∧ j.At < 1125899906842624 ∧ j.Net ≠ 0
  | [], _, _, j, hj => by simp at hj
  | a :: r, last, h, j, hj => by
    rcases List.mem_cons.1 hj with rfl | hj
    · exact h.1
    · have := h.2.above j hj
      have h1 := h.1.1
      exact ⟨by omega, this.2⟩

theorem Up.yL {l t : Int} {f : List aB} (h : Up l f) (ht : t ≤ l) : val f t = 0 := yD fun j hj => by have := (h.above j hj).1; omega

theorem Up.weaken {a b : Int} {f : List aB} (h : Up b f) (hab : a ≤ b) : Up a f := by
  cases f with
  | nil => trivial
  | cons j r => exact ⟨⟨by have := h.1.1; omega, h.1.2⟩, h.2⟩

theorem wI.up : ∀ {f : List aB} {last : Int}, wI last f → Up last f
  | [], _, _ => trivial
  | _ :: _, _, h => ⟨⟨h.1.1, h.1.2.1, h.1.2.2.1⟩, h.2.up⟩

theorem Up.ext : ∀ {f g : List aB} {last : Int}, Up last f → Up last g → (∀ t, last < t → t < 1125899906842624 → val f t = val g t) → f = g
  | [], [], _, _, _, _ => rfl
  | j :: r, [], last, hf, _, h => by
    have := h j.At hf.1.1 hf.1.2.1
    rw [dK, if_pos (Int.le_refl _), hf.2.yL (Int.le_refl _), vU] at this
    exact absurd (by omega) hf.1.2.2
  | [], k :: s, last, _, hg, h => by
    have := h k.At hg.1.1 hg.1.2.1
    rw [dK, if_pos (Int.le_refl _), hg.2.yL (Int.le_refl _), vU] at this
    exact absurd (by omega) hg.1.2.2
  | j :: r, k :: s, last, hf, hg, h => by
    have h1 := h j.At hf.1.1 hf.1.2.1
    have h2 := h k.At hg.1.1 hg.1.2.1
    rw [dK, if_pos (Int.le_refl _), hf.2.yL (Int.le_refl _), dK] at h1
    rw [dK, dK k, if_pos (Int.le_refl _), hg.2.yL (Int.le_refl _)] at h2
    have n1 := hf.1.2.2
    have n2 := hg.1.2.2
    have he : j.At = k.At := by
      rcases Int.lt_trichotomy j.At k.At with h3 | h3 | h3
      · rw [if_neg (by omega), hg.2.yL (by omega)] at h1; omega
      · exact h3
      · rw [if_neg (by omega), hf.2.yL (by omega)] at h2; omega
    rw [if_pos (by omega), hg.2.yL (by omega)] at h1
    have hj : j = k := by
      obtain ⟨a, b⟩ := j; obtain ⟨c, d⟩ := k
      simp only at he h1
      simp only [Int.add_zero] at h1
      rw [he, h1]
    subst hj
    rw [hf.2.ext hg.2 (fun t ht ht' => by
      have := h t (by have := hf.1.1; omega) ht'
      rw [dK, dK] at this; omega)]

def Inc (last : Int) : List Int → Prop
  | [] => True
  | p :: r => (last < p ∧ p < 1125899906842624) ∧ Inc p r

theorem Inc.above : ∀ {ps : List Int} {last : Int}, Inc last ps → ∀ p ∈ ps, last < p ∧ p < 1125899906842624
  | [], _, _, j, hj => by simp at hj
  | a :: r, last, h, j, hj => by
    rcases List.mem_cons.1 hj with rfl | hj
    · exact h.1
    · have := h.2.above j hj
      have h1 := h.1.1
      exact ⟨by omega, this.2⟩

theorem CI : ∀ {l : List (Int × Int)} {last was : Int}, Inc last (l.map Prod.fst) → Up last (xU was l)
  | [], _, _, _ => trivial
  | x :: r, last, was, h => by
    simp only [xU]
    have ih : Up x.1 (xU x.2 r) := CI h.2
    have h1 : last < x.1 ∧ x.1 < 1125899906842624 := h.1
    unfold emit
    split
    · exact ih.weaken (by omega)
    · exact ⟨⟨h1.1, h1.2, by simp only; omega⟩, ih⟩

theorem EZ {F : Int → Int} : ∀ {ps : List Int} {last : Int}, Inc last ps → (∀ s t, last ≤ s → s ≤ t → t < 1125899906842624 → (∀ p ∈ ps, ¬ (s < p ∧ p ≤ t)) → F s = F t) →
    ∀ t, last ≤ t → t < 1125899906842624 → val (xU (F last) (ps.map fun p => (p, F p))) t = F t - F last
  | [], last, _, hF, t, h1, h2 => by
    have := hF last t (Int.le_refl _) h1 h2 (by simp)
    simp [xU, val, this]
  | p :: r, last, hi, hF, t, h1, h2 => by
    simp only [List.map_cons, xU]
    rw [JF, XV]
    by_cases hp : p ≤ t
    · rw [if_pos hp, EZ (F := F) hi.2 (fun s t' hs hst ht' hn => hF s t' (by have := hi.1.1; omega) hst ht' (fun q hq => by
        rcases List.mem_cons.1 hq with rfl | hq
        · omega
        · exact hn q hq)) t hp h2]
      omega
    · have := hF last t (Int.le_refl _) h1 h2 (fun q hq => by
        rcases List.mem_cons.1 hq with rfl | hq
        · omega
        · have := (hi.2.above q hq).1; omega)
      rw [if_neg hp, Up.yL (CI (last := p) (by rw [List.map_map]; simpa [Function.comp_def] using hi.2)) (by omega)]
      omega

theorem XL {F : Int → Int} (h2 : F (-2) = 0) {ps : List Int} (hi : Inc (-2) ps) (hF : ∀ s t, -2 ≤ s → s ≤ t → t < 1125899906842624 → (∀ p ∈ ps, ¬ (s < p ∧ p ≤ t)) → F s = F t) {h : List aB} (hh : Up (-2) h) (hv : ∀ t, -2 < t → t < 1125899906842624 → val h t = F t) :
    xU 0 (ps.map fun p => (p, F p)) = h := by
  refine (CI (by rw [List.map_map]; simpa [Function.comp_def] using hi)).ext hh fun t h3 h4 => ?_
  have := EZ hi hF t (by omega) h4
  rw [h2] at this
  rw [this, hv t h3 h4]; omega

end Go.Abs
namespace Go.Abs
open Go
theorem CC {f : List aB} (h : mM f = true) : ∀ j ∈ f, j.Net ≤ 1048576 ∧ -1048576 ≤ j.Net := fun j hj => by have := (tN.1 h).2.above j hj; omega

def AN (t : Int) : List Int → List Int
  | [] => [t]
  | p :: r => if p = t then p :: r else if t < p then t :: p :: r else p :: AN t r

theorem LI {t x : Int} : ∀ {ps : List Int}, x ∈ AN t ps ↔ x = t ∨ x ∈ ps
  | [] => by simp [AN]
  | p :: r => by
    unfold AN
    split
    · rename_i h; subst h; simp
    · split
      · simp
      · simp only [List.mem_cons, LI (ps := r)]; constructor <;> (intro h; rcases h with h | h | h <;> simp [h])

theorem LD {t : Int} : ∀ {ps : List Int} {last : Int}, Inc last ps → last < t → t < 1125899906842624 → Inc last (AN t ps)
  | [], last, _, h1, h2 => ⟨⟨h1, h2⟩, trivial⟩
  | p :: r, last, h, h1, h2 => by
    unfold AN
    split
    · exact h
    · split
      · rename_i h3 h4
        exact ⟨⟨h1, h2⟩, ⟨h4, h.1.2⟩, h.2⟩
      · exact ⟨h.1, LD h.2 (by omega) h2⟩

def JI (ps : List Int) (f : List aB) : List Int := f.foldl (fun ps j => AN j.At ps) ps

theorem HG {x : Int} : ∀ {f : List aB} {ps : List Int}, x ∈ JI ps f ↔ x ∈ ps ∨ ∃ j ∈ f, j.At = x
  | [], ps => by simp [JI]
  | k :: r, ps => by
    have := HG (x := x) (f := r) (ps := AN k.At ps)
    unfold JI at this ⊢
    rw [List.foldl_cons, this, LI]
    constructor
    · rintro ((h | h) | ⟨j, h, h'⟩)
      · exact Or.inr ⟨k, List.mem_cons_self .., h.symm⟩
      · exact Or.inl h
      · exact Or.inr ⟨j, List.mem_cons_of_mem _ h, h'⟩
    · rintro (h | ⟨j, h, h'⟩)
      · exact Or.inl (Or.inr h)
      · rcases List.mem_cons.1 h with rfl | h
        · exact Or.inl (Or.inl h'.symm)
        · exact Or.inr ⟨j, h, h'⟩

theorem NV : ∀ {f : List aB} {ps : List Int} {last : Int}, Inc last ps → (∀ j ∈ f, last < j.At ∧ j.At < 1125899906842624) → Inc last (JI ps f)
  | [], _, _, h, _ => h
  | k :: r, ps, last, h, hf => by
    have hk := hf k (List.mem_cons_self ..)
    exact NV (f := r) (LD h hk.1 hk.2) fun j hj => hf j (List.mem_cons_of_mem _ hj)

end Go.Abs
namespace Go.Abs
open Go
def mn (a b : Int) : Int := if b < a then b else a

def parts (v : Int) : List aB → List Int
  | [] => []
  | j :: r => (v + j.Net) :: parts (v + j.Net) r

def BI (f : List aB) : Int := (f.map fun j => val f j.At).foldl mn (val f (-1))

theorem parts_eq : ∀ {f : List aB} {l v : Int}, wI l f → parts v f = f.map fun j => v + val f j.At
  | [], _, _, _ => rfl
  | j :: r, l, v, h => by
    simp only [parts, List.map_cons]
    rw [parts_eq h.2, dK, if_pos (Int.le_refl _), h.2.yL (Int.le_refl _), Int.add_zero]
    congr 1
    apply List.map_congr_left
    intro k hk
    have := (h.2.above k hk).1
    rw [dK, if_pos (by omega)]; omega

theorem VJ {j : aB} {r : List aB} (h : wI (-2) (j :: r)) : val (j :: r) (-1) = if j.At = -1 then j.Net else 0 := by
  have := h.1.1
  by_cases e : j.At = -1
  · rw [if_pos e, dK, if_pos (by omega), h.2.yL (by omega)]; omega
  · rw [if_neg e, yD]
    intro k hk
    rcases List.mem_cons.1 hk with rfl | hk
    · omega
    · have := (h.2.above k hk).1; omega

theorem JC {f : List aB} (hf : mM f = true) (m : Int) (hm : -1125899906842624 ≤ m ∧ m ≤ 1125899906842624) : rC 0 m f (f.length : Nat) 0 = some ((f.map fun j => val f j.At).foldl mn m) := by
  obtain ⟨hl, hr⟩ := tN.1 hf
  unfold rC
  rw [rN (l := f) (body := fun s : Int × Int × Int => mB f (f.length : Nat) s.1 s.2.1 s.2.2) (fun (s : Int × Int) i => (s.1, s.2, i)) (fun s r => (parts s.1 r).foldl mn s.2)
    (fun s r => (∀ j ∈ r, j.Net ≤ 1048576 ∧ -1048576 ≤ j.Net) ∧ r.length ≤ 1024 ∧ s.1 ≤ 1048576 * (1024 - r.length) ∧ -(1048576 * (1024 - r.length)) ≤ s.1) (0, m) ?_ ?_ ?_]
  · simp only [Option.bind_some, qQ, parts_eq hr, Int.zero_add]
  · rintro i a r ⟨v, m⟩ ha ⟨h1, h2, h3, h4⟩
    obtain ⟨d1, d2, d3, d4⟩ := idx ha (by omega)
    have hj := h1 a (List.mem_cons_self ..)
    simp only [List.length_cons] at h2 h3 h4
    have hw : IntKind.i64.wrap (v + a.Net) = v + a.Net := iQ (by omega) (by omega)
    left
    refine ⟨(v + a.Net, mn m (v + a.Net)), ?_, ⟨fun j hj => h1 j (List.mem_cons_of_mem _ hj), by omega, by simp only; omega, by simp only; omega⟩, rfl⟩
    show mB f (f.length : Nat) v m i = _
    simp only [mB, d1, cond_true, bE d2, d3, d4, hw, mn]
  · rintro ⟨v, m⟩ _
    show mB f (f.length : Nat) v m (f.length : Nat) = _
    simp only [mB, iP, cond_false, parts, List.foldl_nil]
  · exact ⟨CC hf, hl, by simp only; omega, by simp only; omega⟩

theorem XS (f : List aB) : tE f = some (if mM f then BI f else 0) := by
  unfold tE
  rw [HP]
  cases h : mM f
  · simp
  · cases f with
    | nil => simp [BI, val]
    | cons j r =>
      obtain ⟨hl, hr⟩ := tN.1 h
      have hne : decide (((List.length (j :: r) : Nat) : Int) = 0) = false := by simp; omega
      simp only [Option.bind_some, Bool.not_true, Bool.false_or, hne, cond_false, bE aAW, aAh, if_true]
      have hj := hr.1
      unfold BI
      rw [VJ hr]
      by_cases e : j.At = -1
      · simp only [e, decide_true, cond_true, if_true, oV]
        exact JC h j.Net (by omega)
      · simp only [e, decide_false, cond_false, if_false, oV]
        exact JC h 0 (by omega)

theorem ED {s t : Int} (hst : s ≤ t) : ∀ {f : List aB}, (∀ j ∈ f, ¬ (s < j.At ∧ j.At ≤ t)) → val f s = val f t
  | [], _ => rfl
  | j :: r, h => by
    have hj := h j (List.mem_cons_self ..)
    rw [dK, dK, ED hst (fun k hk => h k (List.mem_cons_of_mem _ hk))]
    by_cases e : j.At ≤ s
    · rw [if_pos e, if_pos (by omega)]
    · rw [if_neg e, if_neg (by omega)]

end Go.Abs
namespace Go.Abs
open Go
theorem w1 : IntKind.i64.wrap (0 + 1) = 1 := by rw [iQ] <;> omega

theorem w2 : IntKind.i64.wrap (1 + 1) = 2 := by rw [iQ] <;> omega

theorem w3 : IntKind.i64.wrap (1 - 1) = 0 := by rw [iQ] <;> omega

theorem v0 : IntKind.i64.wrap 0 = 0 := by rw [iQ] <;> omega

theorem v1 : IntKind.i64.wrap 1 = 1 := by rw [iQ] <;> omega

theorem v2 : IntKind.i64.wrap 2 = 2 := by rw [iQ] <;> omega

theorem v3 : IntKind.i64.wrap (-1) = -1 := by rw [iQ] <;> omega

end Go.Abs
namespace Go.Abs
open Go
theorem XG (f : List aB) : (told f).1.length ≤ 1024 := by
  unfold told
  cases h : mM f
  · simp
  · simpa using (tN.1 h).1

end Go.Abs
namespace Go.Abs
theorem YC : @dI = @mP aB _ := rfl

theorem VI : @dQ = @dV aB _ := rfl

theorem RN (cmp) : ∀ k, @fR cmp k = @dW aB _ cmp k
  | 0 => rfl
  | k + 1 => by
    show dQ cmp _ = dV cmp _
    rw [RN cmp k, VI]

theorem XR : @eD = @nY aB _ := by
  funext d a m b cmp
  unfold eD nY
  simp only [RN]

theorem QE : @eZ = @vR aB _ := by
  funext d n cmp
  unfold eZ vR gR xR
  unfold gP lQ eP xT
  unfold gU xP gS jF
  unfold iF tY iC lT
  unfold eR uK
  rw [XR, YC]
  rfl

end Go.Abs
namespace Go.Abs
open Go
variable {α : Type} [Inhabited α]
noncomputable def oC (f1 : α → Option Bool) (s0 : (List α)) (t7 : Int) (t8 : Int) : Option ((Int) ⊕ (Unit ⊕ Int)) :=
  cond (decide (t8 < t7))
  (bI (0 ≤ t8 ∧ t8 < ((List.length s0 : Nat) : Int)) <|
  (f1 (List.getD s0 (Int.toNat t8) default)).bind fun x2 =>
  cond x2
  (some (.inr (.inr t8)))
  (some (.inl (IntKind.i64.wrap (t8 + (1 : Int))))))
  (some (.inr (.inl ())))

theorem zO {l : List α} {f : α → Option Bool} {g : α → Bool} (hl : l.length ≤ 1099511627776) (hf : ∀ x ∈ l, f x = some (g x)) : ∀ (r : List α) (k : Nat), l.drop k = r → k ≤ l.length →
    ∃ x, lp (fun s => oC f l (l.length : Nat) s) (k : Int) = some x ∧ ((x = .inl () ∧ r.any g = false) ∨ (∃ i : Nat, x = .inr (i : Int) ∧ k ≤ i ∧ i < l.length ∧ r.any g = true ∧ g (l.getD i default) = true ∧ ∀ j, k ≤ j → j < i → g (l.getD j default) = false))
  | [], k, hd, hk => by
    have : k = l.length := by
      have := congrArg List.length hd
      simp only [List.length_drop, List.length_nil] at this; omega
    subst this
    refine ⟨.inl (), cR ?_, Or.inl ⟨rfl, rfl⟩⟩
    show oC f l _ _ = _
    simp only [oC, iP, cond_false]
  | a :: r, k, hd, hk => by
    obtain ⟨h1, h2⟩ := drop_cons hd
    have hlt : k < l.length := (List.getElem?_eq_some_iff.1 h1).1
    obtain ⟨d1, d2, d3, d4⟩ := idx h1 (by omega)
    have hga : l.getD k default = a := by rw [Int.toNat_natCast] at d3; exact d3
    have hb : (fun s => oC f l (l.length : Nat) s) (k : Int) = some (if g a then .inr (.inr (k : Int)) else .inl ((k + 1 : Nat) : Int)) := by
      show oC f l _ _ = _
      simp only [oC, d1, cond_true, bE d2, d3, d4, hf a (List.mem_of_getElem? h1), Option.bind_some]
      cases g a <;> simp
    cases hg : g a
    · rw [hg] at hb
      obtain ⟨x, e, hx⟩ := zO hl hf r (k + 1) h2 (by omega)
      refine ⟨x, by rw [eW hb]; exact e, ?_⟩
      rcases hx with ⟨rfl, h⟩ | ⟨i, rfl, h3, h4, h5, h6, h7⟩
      · exact Or.inl ⟨rfl, by simp [hg, h]⟩
      · refine Or.inr ⟨i, rfl, by omega, h4, by simp [h5], h6, fun j hj hj' => ?_⟩
        by_cases e : j = k
        · subst e; rw [hga, hg]
        · exact h7 j (by omega) hj'
    · rw [hg] at hb
      exact ⟨.inr (k : Int), cR hb, Or.inr ⟨k, rfl, Nat.le_refl _, hlt, by simp [hg], by rw [hga, hg], fun j h h' => by omega⟩⟩

end Go.Abs
namespace Go.Abs
open Go
theorem ES {l : List aB} {f : aB → Option Bool} {g : aB → Bool} (hl : l.length ≤ 1099511627776) (hf : ∀ x ∈ l, f x = some (g x)) : cQ l f = some (l.any g) := by
  unfold cQ fI fB
  obtain ⟨x, e, hx⟩ := zO hl hf l 0 rfl (Nat.zero_le _)
  have e' : lp (fun s => fA f l (l.length : Nat) s) 0 = some x := e
  rw [e']
  rcases hx with ⟨rfl, h⟩ | ⟨i, rfl, _, _, h, _⟩
  · simp [dM, h]
  · simp [h]

def zL (j : aB) : Bool := !FF j.Net

def DW (j : aB) : Bool := decide (j.At < -1) || decide (1125899906842624 < j.At)

def DH (l : List aB) : List aB := xU 0 ((JI [] (l.filter fun j => decide (j.At < 1125899906842624))).map fun p => (p, val l p))

def qI (l : List aB) : List aB × Int := if l.any zL then ([], 2) else if l.any DW then ([], 13) else told (DH l)

def yM (p n : Int) : List aB := if n ≠ 0 ∧ p < 1125899906842624 then [⟨p, n⟩] else []

def tV (p n : Int) : List aB → List aB
  | [] => yM p n
  | j :: r => if j.At = p then tV p (n + j.Net) r else yM p n ++ tV j.At j.Net r

def grp : List aB → List aB
  | [] => []
  | j :: r => tV j.At j.Net r

abbrev PS (a b : aB) : Prop := a.At ≤ b.At

theorem HB {t : Int} (ht : t < 1125899906842624) : ∀ {r : List aB} {p n : Int}, val (tV p n r) t = (if p ≤ t then n else 0) + val r t
  | [], p, n => by
    unfold tV yM
    split
    · rw [dK, vU]
    · rw [vU]; split <;> omega
  | j :: r, p, n => by
    unfold tV
    split
    · rename_i h
      rw [HB ht, dK, h]; split <;> omega
    · rw [JF, HB ht, dK]
      have : val (yM p n) t = if p ≤ t then n else 0 := by
        unfold yM
        split
        · rw [dK, vU]; simp
        · rw [vU]; split <;> omega
      rw [this]

theorem ZS {t : Int} (ht : t < 1125899906842624) : ∀ {r : List aB}, val (grp r) t = val r t
  | [] => rfl
  | j :: r => by unfold grp; rw [HB ht, dK]

theorem JY : ∀ {r : List aB} {p n last : Int}, last < p → (∀ j ∈ r, p ≤ j.At) → Srt PS r → Up last (tV p n r)
  | [], p, n, last, h, _, _ => by
    unfold tV yM
    split
    · rename_i h'; exact ⟨⟨h, h'.2, h'.1⟩, trivial⟩
    · trivial
  | j :: r, p, n, last, h, hp, hs => by
    have hj := hp j (by simp)
    have hs' := List.pairwise_cons.1 hs
    unfold tV
    split
    · exact JY h (fun k hk => hp k (by simp [hk])) hs'.2
    · have ih : Up p (tV j.At j.Net r) := JY (by omega) (fun k hk => hs'.1 k hk) hs'.2
      unfold yM
      split
      · rename_i h'; exact ⟨⟨h, h'.2, h'.1⟩, ih⟩
      · exact ih.weaken (by omega)

theorem aAg {r : List aB} (h : ∀ j ∈ r, -2 < j.At) (hs : Srt PS r) : Up (-2) (grp r) := by
  cases r with
  | nil => trivial
  | cons j r =>
    have hs' := List.pairwise_cons.1 hs
    exact JY (h j (by simp)) (fun k hk => hs'.1 k hk) hs'.2

theorem OU {l out : List aB} (hl : l.length ≤ 1099511627776) (hb : ∀ j ∈ l, j.Net ≤ 1048576 ∧ -1048576 ≤ j.Net) : ∀ (r : List aB) (k : Nat) (p n : Int), l.drop k = r → k ≤ l.length → n ≤ 1048576 * k → -(1048576 * k) ≤ n →
    ∃ n' k', k ≤ k' ∧ k' ≤ l.length ∧ tV p n r = yM p n' ++ grp (l.drop k') ∧ lp (fun s : List aB × List aB × Int × aB => iY s.1 s.2.1 s.2.2.1 s.2.2.2) (l, out, (k : Int), ⟨p, n⟩) = some (l, out, ((k' : Nat) : Int), ⟨p, n'⟩) ∧ (∀ j r', r = j :: r' → j.At = p → k < k')
  | [], k, p, n, hd, hk, _, _ => by
    have : k = l.length := by
      have := congrArg List.length hd
      simp only [List.length_drop, List.length_nil] at this; omega
    subst this
    refine ⟨n, l.length, Nat.le_refl _, Nat.le_refl _, by simp [tV, grp], cR ?_, fun j r' h => by cases h⟩
    show iY _ _ _ _ = _
    simp only [iY, iP, Bool.false_and, cond_false]
    exact bE (fun h => by cases h)
  | a :: r, k, p, n, hd, hk, h1, h2 => by
    obtain ⟨e1, e2⟩ := drop_cons hd
    have hlt : k < l.length := (List.getElem?_eq_some_iff.1 e1).1
    obtain ⟨d1, d2, d3, d4⟩ := idx e1 (by omega)
    have ha := hb a (List.mem_of_getElem? e1)
    by_cases h : a.At = p
    · have hw : IntKind.i64.wrap (n + a.Net) = n + a.Net := iQ (by omega) (by omega)
      obtain ⟨n', k', k1, k2, k3, k4, _⟩ := OU hl hb r (k + 1) p (n + a.Net) e2 (by omega) (by omega) (by omega) (out := out)
      refine ⟨n', k', by omega, k2, by simp [tV, h, k3], ?_, fun _ _ _ _ => by omega⟩
      have hb : (fun s : List aB × List aB × Int × aB => iY s.1 s.2.1 s.2.2.1 s.2.2.2) (l, out, (k : Int), ⟨p, n⟩) = some (.inl (l, out, ((k + 1 : Nat) : Int), ⟨p, n + a.Net⟩)) := by
        show iY _ _ _ _ = _
        simp only [iY, d1, Bool.true_and, d3, d4, h, decide_true, cond_true, hw]
        rw [bE (fun _ => d2), bE d2]
      rw [eW hb, k4]
    · refine ⟨n, k, Nat.le_refl _, hk, ?_, cR ?_, fun j r' he hp => ?_⟩
      · rw [hd]; simp [tV, h, grp]
      · show iY _ _ _ _ = _
        simp only [iY, d1, Bool.true_and, d3, h, decide_false, cond_false]
        exact bE (fun _ => d2)
      · cases he; exact absurd hp h

theorem XZ {l : List aB} (hl : l.length ≤ 1099511627776) (hb : ∀ j ∈ l, j.Net ≤ 1048576 ∧ -1048576 ≤ j.Net) : ∀ (m k : Nat) (out : List aB), l.length - k ≤ m → k ≤ l.length → out.length ≤ k →
    lp (fun s : List aB × List aB × Int => kS s.1 s.2.1 s.2.2) (l, out, (k : Int)) = some (out ++ grp (l.drop k)) := by
  have stop : ∀ out, lp (fun s : List aB × List aB × Int => kS s.1 s.2.1 s.2.2) (l, out, ((l.length : Nat) : Int)) = some (out ++ grp (l.drop l.length)) := by
    intro out
    refine cR ?_
    show kS _ _ _ = _
    simp only [kS, iP, cond_false]
    simp [grp]
  intro m
  induction m with
  | zero =>
    intro k out hm hk _
    have : k = l.length := by omega
    subst this; exact stop out
  | succ m ih =>
    intro k out hm hk ho
    by_cases he : k = l.length
    · subst he; exact stop out
    · have hlt : k < l.length := by omega
      have hd : l.drop k = l[k] :: l.drop (k + 1) := List.drop_eq_getElem_cons hlt
      obtain ⟨d1, d2, d3, d4⟩ := idx (List.getElem?_eq_getElem hlt) (by omega)
      obtain ⟨n', k', k1, k2, k3, k4, k5⟩ := OU hl hb (l.drop k) k l[k].At 0 rfl hk (by omega) (by omega) (out := out)
      have hk' := k5 _ _ hd rfl
      have hbod : (fun s : List aB × List aB × Int => kS s.1 s.2.1 s.2.2) (l, out, (k : Int)) = some (.inl (l, out ++ yM l[k].At n', ((k' : Nat) : Int))) := by
        show kS _ _ _ = _
        simp only [kS, d1, cond_true, bE d2, d3, wE, k4, Option.bind_some, sI]
        unfold yM
        by_cases c : n' ≠ 0 ∧ l[k].At < 1125899906842624
        · have hc : (!decide (n' = 0) && decide (l[k].At < 1125899906842624)) = true := by simp [c]
          rw [hc, cond_true, if_pos c, bE (by simp only [List.length_cons, List.length_nil]; omega)]
        · have hc : (!decide (n' = 0) && decide (l[k].At < 1125899906842624)) = false := by
            rw [Bool.eq_false_iff]; intro h; apply c; simpa using h
          rw [hc, cond_false, if_neg c]; simp
      have hfl : (yM l[k].At n').length ≤ 1 := by unfold yM; split <;> simp
      rw [eW hbod, ih k' _ (by omega) k2 (by simp only [List.length_append]; omega)]
      have hg : grp (l.drop k) = tV l[k].At 0 (l.drop k) := by rw [hd]; simp [grp, tV]
      rw [hg, k3]; simp

theorem YU (a b : aB) : mH a b = some (if a.At < b.At then -1 else if b.At < a.At then 1 else 0) := by
  unfold mH iT iW
  by_cases h1 : a.At < b.At
  · simp [h1]
  · by_cases h2 : b.At < a.At <;> simp [h1, h2]

theorem aAY : Cmp (fun _ => True) PS (fun y0 y1 => mH y0 y1) where
  ans x y _ _ := ⟨_, YU x y, by unfold PS; split <;> (try split) <;> omega⟩
  trans x y z _ _ _ h1 h2 := Int.le_trans h1 h2
  total x y _ _ := Int.le_total x.At y.At

theorem aAS {l : List aB} (hl : l.length ≤ 1099511627776) : ∃ r, r.Perm l ∧ Srt PS r ∧ cX l (fun y0 y1 => mH y0 y1) = some r := by
  obtain ⟨r, r1, r2, r3⟩ := KX aAY (d := l) (fun _ _ => trivial) hl
  refine ⟨r, r1, r2, ?_⟩
  unfold cX
  rw [QE, r3]; rfl

theorem NB {f g : List aB} (h : f.Perm g) (t : Int) : val f t = val g t := by
  induction h with
  | nil => rfl
  | cons x _ ih => rw [dK, dK, ih]
  | swap x y l => rw [dK, dK, dK, dK]; omega
  | trans _ _ ih1 ih2 => rw [ih1, ih2]

theorem TQ {l : List aB} (h : l.any zL = false) : ∀ j ∈ l, j.Net ≤ 1048576 ∧ -1048576 ≤ j.Net := by
  intro j hj
  have := List.any_eq_false.1 h j hj
  simp [zL, FF] at this
  omega

theorem CZ {l : List aB} (h : l.any DW = false) : ∀ j ∈ l, -2 < j.At ∧ j.At ≤ 1125899906842624 := by
  intro j hj
  have := List.any_eq_false.1 h j hj
  simp [DW] at this
  omega

theorem EL {l : List aB} (ht : ∀ j ∈ l, -2 < j.At) : Inc (-2) (JI [] (l.filter fun j => decide (j.At < 1125899906842624))) :=
  NV (ps := []) (show Inc (-2) [] from trivial) fun j hj => by
    obtain ⟨h1, h2⟩ := List.mem_filter.1 hj
    exact ⟨ht j h1, by simpa using h2⟩

theorem MQ {l h : List aB} (ht : ∀ j ∈ l, -2 < j.At) (hh : Up (-2) h) (hv : ∀ t, -2 < t → t < 1125899906842624 → val h t = val l t) : DH l = h := by
  refine XL (F := val l) (yD fun j hj => ht j hj) (EL ht) ?_ hh hv
  intro s t _ hst h2 hn
  exact ED hst fun j hj hc => hn j.At (HG.2 (Or.inr ⟨j, List.mem_filter.2 ⟨hj, by simp; omega⟩, rfl⟩)) hc

theorem norm_eq {l : List aB} (hl : l.length ≤ 1099511627776) : uB l = some (qI l) := by
  unfold uB qI
  rw [ES (g := zL) hl (fun x _ => by simp [rB, RJ, zL])]
  simp only [Option.bind_some]
  cases h1 : l.any zL
  · rw [ES (f := fun y0 => rI y0) (g := DW) hl (fun x _ => rfl)]
    simp only [cond_false, Option.bind_some, Bool.false_eq_true, if_false]
    cases h2 : l.any DW
    · simp only [cond_false, Bool.false_eq_true, if_false]
      have hc : eO l = some l := by unfold eO; exact bE ⟨by omega, by omega⟩
      obtain ⟨r, r1, r2, r3⟩ := aAS hl
      rw [hc]
      simp only [Option.bind_some]
      rw [r3]
      simp only [Option.bind_some, wT]
      have hlr : r.length ≤ 1099511627776 := by rw [r1.length_eq]; exact hl
      have := XZ hlr (fun j hj => TQ h1 j (r1.mem_iff.1 hj)) r.length 0 [] (by omega) (by omega) (by simp)
      simp only [Int.natCast_zero, List.drop_zero, List.nil_append] at this
      rw [this]
      simp only [Option.bind_some, sJ, XP]
      rw [MQ (fun j hj => (CZ h2 j hj).1) (aAg (fun j hj => (CZ h2 j (r1.mem_iff.1 hj)).1) r2) (fun t _ ht => by rw [ZS ht, NB r1])]
    · simp
  · simp

end Go.Abs
namespace Go.Abs
open Go
theorem KN (x y : ByteArray) : nO x y = decide (x = y) := by
  unfold nO
  rw [ByteArray.toList_eq, ByteArray.toList_eq]
  by_cases h : x = y
  · simp [h]
  · have : x.data.toList ≠ y.data.toList := by
      intro he
      apply h
      cases x; cases y
      congr 1
      exact Array.toList_inj.1 he
    have h2 : (x.data.toList == y.data.toList) = false := by simpa using this
    rw [h2]; simp [h]

theorem veq (a b : aJ) : ((decide (a.Kind = b.Kind)) && ((decide (a.Num = b.Num)) && ((nO a.Text b.Text) && true))) = decide (a = b) := by
  rw [KN]
  obtain ⟨a1, a2, a3⟩ := a
  obtain ⟨b1, b2, b3⟩ := b
  by_cases h1 : a1 = b1 <;> by_cases h2 : a2 = b2 <;> by_cases h3 : a3 = b3 <;> simp [h1, h2, h3]

def CL (v : aJ) : Bool := decide (v.Kind = 1) && nO v.Text (⟨#[]⟩ : ByteArray)

def CG (v : aJ) : Bool := ((decide (v.Kind = 2)) && (decide (v.Num = 0))) && (decide (((ByteArray.size v.Text : Nat) : Int) ≤ 64))

def CF (v : aJ) : Bool := CL v || CG v

def pM (r : List aJ) : Bool := decide (r.length ≤ 8) && r.all CF

theorem of_eq (v : aJ) : kW v = some (if CL v then (.k_number v.Num, true) else if CG v then (.k_words v.Text, true) else (.none_, false)) := by
  unfold kW CL CG
  cases (decide (v.Kind = 1) && nO v.Text (⟨#[]⟩ : ByteArray)) <;> cases (((decide (v.Kind = 2)) && (decide (v.Num = 0))) && (decide (((ByteArray.size v.Text : Nat) : Int) ≤ 64))) <;> rfl

theorem ZA (v : aJ) : uH v = some (CF v) := by
  unfold uH CF
  rw [of_eq]
  cases CL v <;> cases CG v <;> rfl

theorem PF {l : List aJ} {f : aJ → Option Bool} {g : aJ → Bool} (hl : l.length ≤ 1099511627776) (hf : ∀ x ∈ l, f x = some (g x)) : dD l f = some (l.any g) := by
  unfold dD fH fC
  obtain ⟨x, e, hx⟩ := zO hl hf l 0 rfl (Nat.zero_le _)
  have e' : lp (fun s => fE f l (l.length : Nat) s) 0 = some x := e
  rw [e']
  rcases hx with ⟨rfl, h⟩ | ⟨i, rfl, _, _, h, _⟩
  · simp [dN, h]
  · simp [h]

theorem BY (r : List aJ) : pG r = some (pM r) := by
  unfold pG pM
  by_cases h : r.length ≤ 8
  · have h1 : decide ((8 : Int) < ((r.length : Nat) : Int)) = false := by simp; omega
    rw [h1, cond_false, PF (g := fun v => !CF v) (by omega) (fun x _ => by simp [uA, ZA])]
    simp only [Option.bind_some, h, decide_true, Bool.true_and]
    congr 1
    rw [List.all_eq_not_any_not]
  · have h1 : decide ((8 : Int) < ((r.length : Nat) : Int)) = true := by simp; omega
    rw [h1, cond_true]
    simp [h]

theorem HV {α : Type} [DecidableEq α] {f g : List α} {body : Int → Option (Int ⊕ (Unit ⊕ Bool))} (he : f.length = g.length)
    (hb : ∀ (i : Nat) a b, f[i]? = some a → g[i]? = some b → body i = some (if a = b then .inl ((i + 1 : Nat) : Int) else .inr (.inr false)))
    (hend : body (f.length : Nat) = some (.inr (.inl ()))) : ∀ (m k : Nat), f.length - k = m → k ≤ f.length → lp body (k : Int) = some (if f.drop k = g.drop k then .inl () else .inr false)
  | 0, k, hm, hk => by
    have : k = f.length := by omega
    subst this
    rw [List.drop_length, he, List.drop_length, if_pos rfl]
    rw [← he]
    exact cR hend
  | m + 1, k, hm, hk => by
    have h1 : k < f.length := by omega
    have h2 : k < g.length := by omega
    have hbk := hb k _ _ (List.getElem?_eq_getElem h1) (List.getElem?_eq_getElem h2)
    have e1 : f.drop k = f[k] :: f.drop (k + 1) := List.drop_eq_getElem_cons h1
    have e2 : g.drop k = g[k] :: g.drop (k + 1) := List.drop_eq_getElem_cons h2
    have hiff : (f.drop k = g.drop k) ↔ (f[k] = g[k] ∧ f.drop (k + 1) = g.drop (k + 1)) := by rw [e1, e2, List.cons.injEq]
    by_cases h : f[k] = g[k]
    · rw [if_pos h] at hbk
      rw [eW hbk, HV he hb hend m (k + 1) (by omega) (by omega)]
      simp only [hiff, h, true_and]
    · rw [if_neg h] at hbk
      rw [cR hbk]
      simp only [hiff, h, false_and, if_false]

theorem HY {α : Type} {f g : List α} (h : f.length ≠ g.length) : (!decide (((f.length : Nat) : Int) = ((g.length : Nat) : Int))) = true := by simp; omega

theorem IS {α : Type} {f g : List α} (h : f.length = g.length) : (!decide (((f.length : Nat) : Int) = ((g.length : Nat) : Int))) = false := by simp [h]

theorem HT (a b : List aJ) (hl : a.length ≤ 17592186044416) : tS a b = some (decide (a = b)) := by
  unfold tS gV
  by_cases he : a.length = b.length
  · rw [IS he, cond_false]
    unfold gL
    have := HV (f := a) (g := b) (body := fun s => dH a b (a.length : Nat) s) he ?_ ?_ a.length 0 rfl (Nat.zero_le _)
    · simp only [Int.natCast_zero, List.drop_zero] at this
      rw [this]
      by_cases h : a = b <;> simp [h, eB]
    · intro i x y hx hy
      obtain ⟨d1, d2, d3, d4⟩ := idx hx (by omega)
      obtain ⟨_, e2, e3, _⟩ := idx hy (by omega)
      simp only [dH, d1, cond_true, bE d2, bE e2, d3, e3, d4, veq]
      by_cases h : x = y <;> simp [h]
    · simp only [dH, iP, cond_false]
  · rw [HY he, cond_true]
    have : a ≠ b := fun h => he (by rw [h])
    simp [this]

theorem LS (a b : List aJ) (hl : a.length ≤ 17592186044416) : sK a b = some (decide (a = b)) := by
  unfold sK
  by_cases he : a.length = b.length
  · rw [IS he, cond_false]
    unfold vC
    have := HV (f := a) (g := b) (body := fun s => oR a b s) he ?_ ?_ a.length 0 rfl (Nat.zero_le _)
    · simp only [Int.natCast_zero, List.drop_zero] at this
      rw [this]
      by_cases h : a = b <;> simp [h, qS]
    · intro i x y hx hy
      obtain ⟨d1, d2, d3, d4⟩ := idx hx (by omega)
      obtain ⟨_, e2, e3, _⟩ := idx hy (by omega)
      simp only [oR, d1, cond_true, bE d2, bE e2, d3, e3, d4, veq]
      by_cases h : x = y <;> simp [h]
    · simp only [oR, iP, cond_false]
  · rw [HY he, cond_true]
    have : a ≠ b := fun h => he (by rw [h])
    simp [this]

structure EN {α : Type} (c : α → α → Int) : Prop where
  eq : ∀ a b, c a b = 0 ↔ a = b
  anti : ∀ a b, c a b < 0 ↔ 0 < c b a
  trans : ∀ a b d, c a b < 0 → c b d < 0 → c a d < 0

def pO (x y : Int) : Int := if x < y then -1 else if y < x then 1 else 0

theorem AF : EN pO where
  eq a b := by unfold pO; (repeat' split) <;> omega
  anti a b := by unfold pO; (repeat' split) <;> omega
  trans a b d := by unfold pO; (repeat' split) <;> omega

def kR {α : Type} [DecidableEq α] (c : α → α → Int) : List α → List α → Int
  | [], [] => 0
  | [], _ :: _ => -1
  | _ :: _, [] => 1
  | a :: r, b :: s => if a = b then kR c r s else c a b

theorem EN.list {α : Type} [DecidableEq α] {c : α → α → Int} (h : EN c) : EN (kR c) where
  eq := by
    intro a
    induction a with
    | nil => intro b; cases b <;> simp [kR]
    | cons x r ih =>
      intro b
      cases b with
      | nil => simp [kR]
      | cons y s =>
        unfold kR
        split
        · rename_i e; subst e; rw [ih]; simp
        · rename_i e
          have := h.eq x y
          constructor
          · intro h0; exact absurd (this.1 h0) e
          · intro h0; cases h0; exact absurd rfl e
  anti := by
    intro a
    induction a with
    | nil => intro b; cases b <;> simp [kR]
    | cons x r ih =>
      intro b
      cases b with
      | nil => simp [kR]
      | cons y s =>
        unfold kR
        by_cases e : x = y
        · subst e; simp only [if_true]; exact ih s
        · rw [if_neg e, if_neg (fun e' => e e'.symm)]; exact h.anti x y
  trans := by
    intro a
    induction a with
    | nil =>
      intro b d
      cases b <;> cases d <;> simp [kR]
    | cons x r ih =>
      intro b d
      cases b with
      | nil => simp [kR]
      | cons y s =>
        cases d with
        | nil => simp [kR]
        | cons z t =>
          unfold kR
          by_cases e1 : x = y
          · subst e1
            rw [if_pos rfl]
            by_cases e2 : x = z
            · subst e2; rw [if_pos rfl, if_pos rfl]; exact ih s t
            · rw [if_neg e2, if_neg e2]; exact fun _ h => h
          · rw [if_neg e1]
            by_cases e2 : y = z
            · have hz : ¬ x = z := fun e => e1 (e.trans e2.symm)
              intro h _
              rw [if_neg hz, ← e2]; exact h
            · rw [if_neg e2]
              intro h1 h2
              by_cases e3 : x = z
              · subst e3
                have h3 := (h.anti x y).1 h1
                omega
              · rw [if_neg e3]; exact h.trans x y z h1 h2

def HE (a b : UInt8) : Int := if a < b then -1 else if b < a then 1 else 0

theorem GR : EN HE where
  eq a b := by
    unfold HE
    constructor
    · intro h
      split at h
      · cases h
      · split at h
        · cases h
        · rename_i h1 h2
          rw [UInt8.lt_iff_toNat_lt] at h1 h2
          exact UInt8.toNat_inj.1 (by omega)
    · rintro rfl
      have : ¬ a < a := by rw [UInt8.lt_iff_toNat_lt]; omega
      simp [this]
  anti a b := by
    unfold HE
    simp only [UInt8.lt_iff_toNat_lt]
    (repeat' split) <;> omega
  trans a b d := by
    unfold HE
    simp only [UInt8.lt_iff_toNat_lt]
    (repeat' split) <;> omega

theorem AM : ∀ (a b : List UInt8), Go.Lib.compareBytes a b = kR HE a b
  | [], [] => rfl
  | [], _ :: _ => rfl
  | _ :: _, [] => rfl
  | a :: r, b :: s => by
    unfold Go.Lib.compareBytes kR
    rw [AM r s]
    by_cases e : a = b
    · subst e
      have : ¬ a < a := by rw [UInt8.lt_iff_toNat_lt]; omega
      simp [this]
    · rw [if_neg e]
      unfold HE
      have : ¬ (¬ a < b ∧ ¬ b < a) := by
        rintro ⟨h1, h2⟩
        rw [UInt8.lt_iff_toNat_lt] at h1 h2
        exact e (UInt8.toNat_inj.1 (by omega))
      by_cases h1 : a < b
      · simp [h1]
      · have h2 : b < a := Classical.byContradiction fun h2 => this ⟨h1, h2⟩
        simp [h1, h2]

def ON (a b : ByteArray) : Int := kR HE a.data.toList b.data.toList

theorem ZB (a b : ByteArray) : KF a b = ON a b := AM _ _

theorem data_inj {x y : ByteArray} (h : x.data.toList = y.data.toList) : x = y := by
  cases x; cases y
  congr 1
  exact Array.toList_inj.1 h

theorem CN : EN ON where
  eq a b := by unfold ON; rw [(GR.list).eq]; exact ⟨data_inj, fun h => by rw [h]⟩
  anti a b := (GR.list).anti _ _
  trans a b d := (GR.list).trans _ _ _

def zS (a b : aJ) : Int := if a.Kind = b.Kind then (if a.Num = b.Num then ON a.Text b.Text else pO a.Num b.Num) else pO a.Kind b.Kind

theorem XC : EN zS where
  eq a b := by
    obtain ⟨a1, a2, a3⟩ := a
    obtain ⟨b1, b2, b3⟩ := b
    unfold zS
    simp only [aJ.mk.injEq]
    by_cases h1 : a1 = b1
    · by_cases h2 : a2 = b2
      · simp [h1, h2, CN.eq]
      · simp [h1, h2, AF.eq]
    · simp [h1, AF.eq]
  anti a b := by
    unfold zS
    by_cases h1 : a.Kind = b.Kind
    · rw [if_pos h1, if_pos h1.symm]
      by_cases h2 : a.Num = b.Num
      · rw [if_pos h2, if_pos h2.symm]; exact CN.anti _ _
      · rw [if_neg h2, if_neg (fun h => h2 h.symm)]; exact AF.anti _ _
    · rw [if_neg h1, if_neg (fun h => h1 h.symm)]; exact AF.anti _ _
  trans a b d := by
    unfold zS
    intro h1 h2
    have lt : ∀ {x y : Int}, pO x y < 0 → x < y := fun {x y} h => by unfold pO at h; split at h <;> (try split at h) <;> omega
    have mk : ∀ {x y : Int}, x < y → pO x y < 0 := fun {x y} h => by unfold pO; rw [if_pos h]; omega
    by_cases e1 : a.Kind = b.Kind
    · rw [if_pos e1] at h1
      by_cases e2 : b.Kind = d.Kind
      · rw [if_pos e2] at h2
        rw [if_pos (e1.trans e2)]
        by_cases f1 : a.Num = b.Num
        · rw [if_pos f1] at h1
          by_cases f2 : b.Num = d.Num
          · rw [if_pos f2] at h2
            rw [if_pos (f1.trans f2)]
            exact CN.trans _ _ _ h1 h2
          · rw [if_neg f2] at h2
            rw [f1, if_neg f2]; exact h2
        · rw [if_neg f1] at h1
          have g1 := lt h1
          by_cases f2 : b.Num = d.Num
          · rw [← f2, if_neg f1]; exact h1
          · rw [if_neg f2] at h2
            have g2 := lt h2
            rw [if_neg (by omega)]
            exact mk (by omega)
      · rw [if_neg e2] at h2
        rw [e1, if_neg e2]; exact h2
    · rw [if_neg e1] at h1
      have g1 := lt h1
      by_cases e2 : b.Kind = d.Kind
      · rw [← e2, if_neg e1]; exact h1
      · rw [if_neg e2] at h2
        have g2 := lt h2
        rw [if_neg (by omega)]
        exact mk (by omega)

def kT (a b : List aJ) : Int := kR zS a b

theorem mS : EN kT := XC.list

end Go.Abs
namespace Go.Abs
open Go
theorem LA (x y : Int) : iT x y = some (pO x y) := by
  unfold iT iW pO
  by_cases h1 : x < y
  · simp [h1]
  · by_cases h2 : y < x <;> simp [h1, h2]

theorem VR (x y : Int) : dX x y = some (pO x y) := by
  unfold dX jC pO
  by_cases h1 : x < y
  · simp [h1]
  · by_cases h2 : y < x <;> simp [h1, h2]

theorem FH {v : aJ} (h : CL v = true) : v.Kind = 1 ∧ v.Text = (⟨#[]⟩ : ByteArray) := by
  simp only [CL, KN, Bool.and_eq_true, decide_eq_true_eq] at h; exact h

theorem CQ {v : aJ} (h : CG v = true) : v.Kind = 2 ∧ v.Num = 0 ∧ v.Text.size ≤ 64 := by
  simp only [CG, Bool.and_eq_true, decide_eq_true_eq] at h; exact ⟨h.1.1, h.1.2, by omega⟩

theorem RT {v : aJ} (h : CF v = true) : CL v = true ∨ (CL v = false ∧ CG v = true) := by
  unfold CF at h
  cases hn : CL v
  · rw [hn] at h; exact .inr ⟨rfl, by simpa using h⟩
  · exact .inl rfl

theorem VX (a : ByteArray) : ON a a = 0 := (CN.eq a a).2 rfl

theorem EM (a : Int) : pO a a = 0 := (AF.eq a a).2 rfl

theorem VD {a b : aJ} (ha : CF a = true) (hb : CF b = true) : pJ a b = some (zS a b) := by
  unfold pJ
  simp only [of_eq, Option.bind_some]
  rcases RT ha with h1 | ⟨h1, h1'⟩ <;> rcases RT hb with h2 | ⟨h2, h2'⟩
  · obtain ⟨k1, t1⟩ := FH h1
    obtain ⟨k2, t2⟩ := FH h2
    simp only [h1, h2, if_true, Bool.not_true, Bool.or_self, cond_false, VR, Option.bind_some]
    unfold zS
    rw [k1, k2, t1, t2, if_pos rfl, VX]
    by_cases hn : a.Num = b.Num
    · rw [if_pos hn, hn, EM]
    · rw [if_neg hn]
  · obtain ⟨k1, t1⟩ := FH h1
    obtain ⟨k2, n2, _⟩ := CQ h2'
    simp only [h1, h2, h2', if_true, Bool.false_eq_true, if_false, Bool.not_true, Bool.or_self, cond_false]
    unfold zS
    rw [k1, k2]; rfl
  · obtain ⟨k1, n1, _⟩ := CQ h1'
    obtain ⟨k2, t2⟩ := FH h2
    simp only [h1, h1', h2, if_true, Bool.false_eq_true, if_false, Bool.not_true, Bool.or_self, cond_false]
    unfold zS
    rw [k1, k2]; rfl
  · obtain ⟨k1, n1, _⟩ := CQ h1'
    obtain ⟨k2, n2, _⟩ := CQ h2'
    simp only [h1, h1', h2, h2', if_true, Bool.false_eq_true, if_false, Bool.not_true, Bool.or_self, cond_false]
    unfold zS lY iB
    rw [k1, k2, n1, n2, if_pos rfl, if_pos rfl]
    simp [ZB]

theorem RY {r : List aJ} (h : pM r = true) : r.length ≤ 8 ∧ ∀ v ∈ r, CF v = true := by
  simp only [pM, Bool.and_eq_true, decide_eq_true_eq, List.all_eq_true] at h; exact h

theorem YB {a b : List aJ} {k : Nat} (hk : k = a.length ∨ k = b.length) (h1 : k ≤ a.length) (h2 : k ≤ b.length) : kT (a.drop k) (b.drop k) = pO a.length b.length := by
  rcases hk with rfl | rfl
  · rw [List.drop_length]
    by_cases h : a.length = b.length
    · rw [h, List.drop_length, EM]; rfl
    · rw [List.drop_eq_getElem_cons (by omega)]
      show (-1 : Int) = _
      unfold pO; rw [if_pos (by omega)]
  · rw [List.drop_length]
    by_cases h : a.length = b.length
    · rw [← h, List.drop_length, EM]; rfl
    · rw [List.drop_eq_getElem_cons (by omega)]
      show (1 : Int) = _
      unfold pO; rw [if_neg (by omega), if_pos (by omega)]

theorem SD {a b : List aJ} (hl : a.length ≤ 8) (hlb : b.length ≤ 8) (n : Nat) (hn : n = min a.length b.length) : ∀ (m k : Nat), n - k = m → k ≤ n →
    ∃ x, lp (fun s : Int × Int => bU (fun st y0 => (iS y0 st b).bind fun o => some (o.2, o.1)) (a.take n) (n : Nat) s.1 s.2) ((k : Int) - 1, (k : Int)) = some x ∧
      ((∃ sg, x = .inl sg ∧ kT (a.drop k) (b.drop k) = pO a.length b.length) ∨
        (∃ i : Nat, x = .inr ((i : Int), (i : Int)) ∧ i < a.length ∧ i < b.length ∧ kT (a.drop k) (b.drop k) = zS (a.getD i default) (b.getD i default)))
  | 0, k, hm, hk => by
    have : k = n := by omega
    subst this
    refine ⟨.inl ((k : Int) - 1), cR ?_, .inl ⟨_, rfl, YB (by omega) (by omega) (by omega)⟩⟩
    show bU _ _ _ _ _ = _
    simp only [bU, iP, cond_false]
  | m + 1, k, hm, hk => by
    have h1 : k < a.length := by omega
    have h2 : k < b.length := by omega
    have ht : (a.take n)[k]? = some a[k] := by
      rw [List.getElem?_take_of_lt (by omega)]; exact List.getElem?_eq_getElem h1
    obtain ⟨d1, d2, d3, d4⟩ := idx ht (by simp; omega)
    have hlt : (a.take n).length = n := by simp; omega
    rw [hlt] at d1 d2
    obtain ⟨_, e2, e3, _⟩ := idx (List.getElem?_eq_getElem h2) (by omega)
    have hw : IntKind.i64.wrap ((k : Int) - 1 + 1) = (k : Int) := by rw [iQ (by omega) (by omega)]; omega
    have hb : (fun s : Int × Int => bU (fun st y0 => (iS y0 st b).bind fun o => some (o.2, o.1)) (a.take n) (n : Nat) s.1 s.2) ((k : Int) - 1, (k : Int)) =
        some (if a[k] = b[k] then .inl ((k : Int), ((k + 1 : Nat) : Int)) else .inr (.inr ((k : Int), (k : Int)))) := by
      show bU _ _ _ _ _ = _
      simp only [bU, d1, cond_true, hlt, bE d2, d3, d4, iS, hw, bE e2, e3, veq, Option.bind_some]
      by_cases h : a[k] = b[k] <;> simp [h]
    have ea : a.drop k = a[k] :: a.drop (k + 1) := List.drop_eq_getElem_cons h1
    have eb : b.drop k = b[k] :: b.drop (k + 1) := List.drop_eq_getElem_cons h2
    by_cases h : a[k] = b[k]
    · rw [if_pos h] at hb
      obtain ⟨x, e, hx⟩ := SD hl hlb n hn m (k + 1) (by omega) (by omega)
      have hc : kT (a.drop k) (b.drop k) = kT (a.drop (k + 1)) (b.drop (k + 1)) := by
        rw [ea, eb]; unfold kT; rw [kR, if_pos h]
      refine ⟨x, ?_, by rw [hc]; exact hx⟩
      rw [eW hb]
      rw [show ((k + 1 : Nat) : Int) - 1 = (k : Int) by omega] at e
      exact e
    · rw [if_neg h] at hb
      refine ⟨_, cR hb, .inr ⟨k, rfl, h1, h2, ?_⟩⟩
      rw [ea, eb]; unfold kT; rw [kR, if_neg h]
      simp [List.getD_eq_getElem?_getD, h1, h2]

theorem KW (a b : List aJ) : oT a b = some (if pM a && pM b then kT a b else 0) := by
  unfold oT
  rw [BY]
  simp only [Option.bind_some]
  cases ha : pM a
  · simp [cL]
  · simp only [Bool.not_true, Bool.not_false, cL, cond_true, BY, Option.bind_some, Bool.false_or]
    cases hb : pM b
    · simp
    · obtain ⟨la, ma⟩ := RY ha
      obtain ⟨lb, mb⟩ := RY hb
      have hif : (if ((List.length b : Nat) : Int) < ((List.length a : Nat) : Int) then ((List.length b : Nat) : Int) else ((List.length a : Nat) : Int)) = ((min a.length b.length : Nat) : Int) := by split <;> omega
      have hlt : (a.take (min a.length b.length)).length = min a.length b.length := by rw [List.length_take]; omega
      simp only [Bool.not_true, cond_false, hif, Int.toNat_natCast, rX, Option.bind_some, eU, eJ, hlt, Bool.and_self, if_true]
      rw [bE ⟨by omega, by omega⟩]
      obtain ⟨x, e, hx⟩ := SD (a := a) (b := b) la lb _ rfl _ 0 rfl (Nat.zero_le _)
      have e' : lp (fun s : Int × Int => bU (fun st y0 => (iS y0 st b).bind fun o => some (o.2, o.1)) (a.take (min a.length b.length)) (min a.length b.length : Nat) s.1 s.2) ((-1 : Int), (0 : Int)) = some x := e
      rw [e']
      simp only [List.drop_zero] at hx
      rcases hx with ⟨sg, rfl, h⟩ | ⟨i, rfl, h1, h2, h⟩
      · simp [dB, LA, h]
      · have hi : decide ((i : Int) < 0) = false := by simp
        simp only [Option.bind_some, Sum.elim_inr, hi, cond_false, Int.toNat_natCast]
        rw [bE ⟨by omega, by omega⟩, bE ⟨by omega, by omega⟩]
        have g1 : a.getD i default ∈ a := by simp [List.getD_eq_getElem?_getD, h1]
        have g2 : b.getD i default ∈ b := by simp [List.getD_eq_getElem?_getD, h2]
        rw [VD (ma _ g1) (mb _ g2), h]
        simp only [Option.bind_some]

end Go.Abs
namespace Go.Abs
open Go
def jE (e : aC) : aB := ⟨e.At, e.Net⟩

def gA (r : List aJ) (f : List aB) : List aC → List (List aJ × List aB)
  | [] => [(r, f)]
  | e :: l => if e.Row = r then gA r (f ++ [jE e]) l else (r, f) :: gA e.Row [jE e] l

def groups : List aC → List (List aJ × List aB)
  | [] => []
  | e :: l => gA e.Row [jE e] l

def itG {σ : Type} (y : σ → List aJ → List aB → Option (σ × Bool)) : List (List aJ × List aB) → σ → Option σ
  | [], s => some s
  | g :: gs, s => (y s g.1 g.2).bind fun x => if x.2 then itG y gs x.1 else some x.1

def okL (l : List aC) : Prop := l.length ≤ 3518437208783 ∧ ∀ e ∈ l, e.Row.length ≤ 4398046510976

theorem wC {r : List aJ} (h : r.length ≤ 4398046510976) : nR r = some r := by
  unfold nR
  rw [bE ⟨by omega, by omega, by omega⟩, bE (by simp only [List.length_nil, Nat.zero_add]; omega)]
  rfl

theorem IB {σ : Type} {y : σ → List aJ → List aB → Option (σ × Bool)} {l : List aC} (hl : okL l) (row : List aJ) (sg : σ) : ∀ (r : List aC) (k : Nat) (f : List aB), l.drop k = r → k ≤ l.length → f.length ≤ k →
    ∃ k' f', k ≤ k' ∧ k' ≤ l.length ∧ f'.length ≤ k' ∧ lp (fun s : σ × Int × List aB => iA y l row s.1 s.2.1 s.2.2) (sg, (k : Int), f) = some (sg, ((k' : Nat) : Int), f') ∧
      gA row f r = (row, f') :: groups (l.drop k') ∧ (∀ e r', r = e :: r' → e.Row = row → k < k')
  | [], k, f, hd, hk, hf => by
    have : k = l.length := by
      have := congrArg List.length hd
      simp only [List.length_drop, List.length_nil] at this; omega
    subst this
    refine ⟨l.length, f, Nat.le_refl _, Nat.le_refl _, hf, cR ?_, by simp [gA, groups], fun e r' h => by cases h⟩
    show iA _ _ _ _ _ _ = _
    simp only [iA, iP, cL, cond_false, Option.bind_some, Bool.false_and]
    exact bE (fun h => by cases h)
  | a :: r, k, f, hd, hk, hf => by
    obtain ⟨h1, h2⟩ := drop_cons hd
    have hlt : k < l.length := (List.getElem?_eq_some_iff.1 h1).1
    obtain ⟨hll, hlr⟩ := hl
    obtain ⟨d1, d2, d3, d4⟩ := idx h1 (by omega)
    have har := hlr a (List.mem_of_getElem? h1)
    have hb : (fun s : σ × Int × List aB => iA y l row s.1 s.2.1 s.2.2) (sg, (k : Int), f) = some (if a.Row = row then .inl (sg, ((k + 1 : Nat) : Int), f ++ [jE a]) else .inr (sg, (k : Int), f)) := by
      show iA _ _ _ _ _ _ = _
      simp only [iA, d1, d3, d4, cL, cond_true, HT a.Row row (by omega), Option.bind_some, Bool.true_and]
      rw [bE (fun _ => d2)]
      by_cases e : a.Row = row
      · simp only [e, decide_true, cond_true, if_true]
        rw [bE d2, bE d2, bE (by simp only [List.length_cons, List.length_nil]; omega)]
        rfl
      · simp [e]
    by_cases e : a.Row = row
    · rw [if_pos e] at hb
      obtain ⟨k', f', g1, g2, g3, g4, g5, _⟩ := IB ⟨hll, hlr⟩ row sg r (k + 1) (f ++ [jE a]) h2 (by omega) (by simp; omega) (y := y)
      refine ⟨k', f', by omega, g2, g3, by rw [eW hb]; exact g4, by simp [gA, e, g5], fun _ _ _ _ => by omega⟩
    · rw [if_neg e] at hb
      refine ⟨k, f, Nat.le_refl _, hk, hf, cR hb, ?_, fun b r' h hr => by cases h; exact absurd hr e⟩
      rw [hd]; simp [gA, e, groups]

theorem TX {σ : Type} {y : σ → List aJ → List aB → Option (σ × Bool)} {l : List aC} (hl : okL l) : ∀ (m k : Nat) (sg s' : σ), l.length - k ≤ m → k ≤ l.length → itG y (groups (l.drop k)) sg = some s' →
    ∃ x, lp (fun s : σ × Int => fK y l s.1 s.2) (sg, (k : Int)) = some x ∧ Sum.elim id id x = s' := by
  have stop : ∀ (sg s' : σ), itG y (groups (l.drop l.length)) sg = some s' → ∃ x, lp (fun s : σ × Int => fK y l s.1 s.2) (sg, ((l.length : Nat) : Int)) = some x ∧ Sum.elim id id x = s' := by
    intro sg s' h
    rw [List.drop_length] at h
    simp only [groups, itG, Option.some.injEq] at h
    refine ⟨.inl sg, cR ?_, h⟩
    show fK _ _ _ _ = _
    simp only [fK, iP, cond_false]
  intro m
  induction m with
  | zero =>
    intro k sg s' hm hk h
    have : k = l.length := by omega
    subst this; exact stop sg s' h
  | succ m ih =>
    intro k sg s' hm hk h
    by_cases he : k = l.length
    · subst he; exact stop sg s' h
    · have hlt : k < l.length := by omega
      have hd : l.drop k = l[k] :: l.drop (k + 1) := List.drop_eq_getElem_cons hlt
      obtain ⟨d1, d2, d3, d4⟩ := idx (List.getElem?_eq_getElem hlt) (by have := hl.1; omega)
      obtain ⟨k', f', g1, g2, g3, g4, g5, g6⟩ := IB hl l[k].Row sg (l.drop k) k [] rfl hk (by simp) (y := y)
      have hk' := g6 _ _ hd rfl
      have hg : groups (l.drop k) = (l[k].Row, f') :: groups (l.drop k') := by
        rw [← g5, hd]; simp [groups, gA]
      rw [hg] at h
      simp only [itG] at h
      obtain ⟨x, hx, h⟩ := aW h
      have hrow := hl.2 _ (List.getElem_mem hlt)
      have hb : (fun s : σ × Int => fK y l s.1 s.2) (sg, (k : Int)) = some (if x.2 then .inl (x.1, ((k' : Nat) : Int)) else .inr (.inr x.1)) := by
        show fK _ _ _ _ = _
        simp only [fK, d1, cond_true, bE d2, d3, qP, g4, Option.bind_some, oJ, wC hrow, hx]
        cases x.2 <;> simp
      cases hx2 : x.2
      · rw [hx2] at hb h
        simp only [Bool.false_eq_true, if_false, Option.some.injEq] at hb h
        exact ⟨_, cR hb, h⟩
      · rw [hx2] at hb h
        simp only [if_true] at hb h
        obtain ⟨z, hz1, hz2⟩ := ih k' x.1 s' (by omega) g2 h
        exact ⟨z, by rw [eW hb]; exact hz1, hz2⟩

theorem KC {σ : Type} {y : σ → List aJ → List aB → Option (σ × Bool)} {l : List aC} (hl : okL l) {s s' : σ} (h : itG y (groups l) s = some s') : lV y l s = some s' := by
  unfold lV qK
  obtain ⟨x, h1, h2⟩ := TX hl l.length 0 s s' (by omega) (Nat.zero_le _) (by simpa using h)
  simp only [Int.natCast_zero] at h1
  rw [h1]
  cases x <;> simpa using h2

def ahd (last : Option (List aJ)) (r : List aJ) : Bool := match last with
  | none => true
  | some q => decide (kT q r < 0)

def uR (p : List aB → Bool) : Option (List aJ) → List (List aJ × List aB) → Bool
  | _, [] => true
  | last, g :: gs => (pM g.1 && ahd last g.1 && p g.2) && uR p (some g.1) gs

theorem RP {holds : List aB → Option Bool} {p : List aB → Bool} (hp : ∀ f, holds f = some (p f)) (c : List aC) (t : Bool) : ∀ (gs : List (List aJ × List aB)) (last : List aJ) (b : Bool), (b = true → pM last = true) →
    ∃ x, itG (fun st r f => rnd (fun (s : Bool × (List aJ) × Bool) => oH holds c s.1 s.2.1 s.2.2 r f) st) gs (.inl (t, last, b)) = some x ∧
      (if uR p (if b then some last else none) gs then ∃ u, x = .inl (t, u) else ∃ u, x = .inr (false, u))
  | [], last, b, _ => ⟨_, rfl, by simp [uR]⟩
  | g :: gs, last, b, hb => by
    have hy : oH holds c t last b g.1 g.2 = some (if pM g.1 && ahd (if b then some last else none) g.1 && p g.2 then .inl (t, g.1, true) else .inr (false, last, b)) := by
      unfold oH
      simp only [BY, Option.bind_some, KW, hp]
      cases hm : pM g.1
      · simp [cL]
      · cases b
        · cases h2 : p g.2 <;> simp [cL, ahd, h2]
        · have hl := hb rfl
          by_cases h1 : kT last g.1 < 0
          · have h1' : ¬ (0 ≤ kT last g.1) := by omega
            cases h2 : p g.2 <;> simp [cL, ahd, h2, hl, h1, h1']
          · have h1' : 0 ≤ kT last g.1 := by omega
            simp [cL, ahd, hl, h1, h1']
    cases hc : (pM g.1 && ahd (if b then some last else none) g.1 && p g.2)
    · rw [hc] at hy
      simp only [itG, rnd, hy, Option.bind_some, uR, hc]
      exact ⟨.inr (false, last, b), by simp, by simp⟩
    · rw [hc] at hy
      simp only [itG, rnd, hy, Option.bind_some, uR, hc]
      have hm : pM g.1 = true := by simp only [Bool.and_eq_true] at hc; exact hc.1.1
      obtain ⟨x, h1, h2⟩ := RP hp c t gs g.1 true (fun _ => hm)
      refine ⟨x, ?_, ?_⟩
      · simpa [rnd] using h1
      · simpa using h2

theorem SE {l : List aC} (hl : okL l) {holds : List aB → Option Bool} {p : List aB → Bool} (hp : ∀ f, holds f = some (p f)) : rP l holds = some (decide (l.length ≤ 4096) && uR p none (groups l)) := by
  unfold rP
  by_cases h : l.length ≤ 4096
  · have h1 : decide ((4096 : Int) < ((l.length : Nat) : Int)) = false := by simp; omega
    rw [h1, cond_false]
    simp only [nS, Option.bind_some, wF]
    obtain ⟨x, e1, e2⟩ := RP hp l false (groups l) [] false (fun h => by cases h)
    rw [KC hl e1]
    simp only [Bool.false_eq_true, if_false] at e2
    simp only [h, decide_true, Bool.true_and]
    cases hc : uR p none (groups l)
    · rw [hc] at e2
      simp only [Bool.false_eq_true, if_false] at e2
      obtain ⟨u, rfl⟩ := e2
      rfl
    · rw [hc] at e2
      simp only [if_true] at e2
      obtain ⟨u, rfl⟩ := e2
      rfl
  · have h1 : decide ((4096 : Int) < ((l.length : Nat) : Int)) = true := by simp; omega
    rw [h1, cond_true]
    simp [h]

def BD (l : List aC) : Bool := decide (l.length ≤ 4096) && uR mM none (groups l)

theorem RA {l : List aC} (hl : okL l) : tP l = some (BD l) := by
  unfold tP
  rw [SE hl (p := mM) (fun f => HP f)]; rfl

def JX (f : List aB) : Bool := mM f && decide (0 ≤ BI f)

def zP (l : List aC) : Bool := decide (l.length ≤ 4096) && uR JX none (groups l)

theorem VV {l : List aC} (hl : okL l) : sG l = some (zP l) := by
  unfold sG
  rw [SE hl (p := JX) (fun f => by
    unfold pY JX
    rw [HP]
    cases h : mM f <;> simp [cL, XS, h])]
  rfl

def lJ (r : List aJ) (f : List aB) : List aC := f.map fun j => ⟨r, j.At, j.Net⟩

theorem put_eq {out : List aC} {r : List aJ} {f : List aB} (hr : r.length ≤ 4398046510976) (hl : out.length + f.length ≤ 1099511627776) : wU out r f = some (out ++ lJ r f) := by
  unfold wU xL
  rw [rN (l := f) (body := fun s : List aC × Int => nW r f (f.length : Nat) s.1 s.2) (fun o i => (o, i)) (fun o t => o ++ lJ r t) (fun o t => o.length + t.length ≤ 1099511627776) out ?_ ?_ hl]
  · rfl
  · intro i a t o ha hi
    left
    obtain ⟨d1, d2, d3, d4⟩ := idx ha (by have := (List.getElem?_eq_some_iff.1 ha).1; omega)
    simp only [List.length_cons] at hi
    refine ⟨o ++ [⟨r, a.At, a.Net⟩], ?_, by simp; omega, by simp [lJ]⟩
    show nW _ _ _ _ _ = _
    simp only [nW, d1, cond_true, bE d2, d3, d4, wC hr, Option.bind_some]
    exact bE (by simp only [List.length_cons, List.length_nil]; omega)
  · intro o _
    show nW _ _ _ _ _ = _
    simp only [nW, iP, cond_false]
    simp [lJ]

def sY (by1 : List aB → List aB × Int) : List (List aJ × List aB) → List aC → List aC × Int
  | [], out => (out, 0)
  | g :: gs, out => if (by1 g.2).2 ≠ 0 then ([], (by1 g.2).2) else if 4096 < (out ++ lJ g.1 (by1 g.2).1).length then ([], 7) else sY by1 gs (out ++ lJ g.1 (by1 g.2).1)

theorem KM {by0 : List aB → Option (List aB × Int)} {by1 : List aB → List aB × Int} (c : List aC) : ∀ (gs : List (List aJ × List aB)) (out : List aC), out.length ≤ 4096 → (∀ g ∈ gs, by0 g.2 = some (by1 g.2) ∧ (by1 g.2).1.length ≤ 1024 ∧ g.1.length ≤ 4398046510976) →
    ∃ x, itG (fun st r f => rnd (fun (s : (List aC) × Int × List aC) => mT by0 c s.1 s.2.1 s.2.2 r f) st) gs (.inl ([], 0, out)) = some x ∧ Sum.elim (fun s : (List aC) × Int × List aC => (s.2.2, (0 : Int))) (fun s => (s.1, s.2.1)) x = sY by1 gs out
  | [], out, _, _ => ⟨_, rfl, rfl⟩
  | g :: gs, out, ho, hg => by
    obtain ⟨h1, h2, h3⟩ := hg g (by simp)
    have hy : mT by0 c [] 0 out g.1 g.2 = some (if (by1 g.2).2 ≠ 0 then .inr ([], (by1 g.2).2, out) else if 4096 < (out ++ lJ g.1 (by1 g.2).1).length then .inr ([], 7, out ++ lJ g.1 (by1 g.2).1) else .inl ([], 0, out ++ lJ g.1 (by1 g.2).1)) := by
      unfold mT
      simp only [h1, Option.bind_some, put_eq h3 (show out.length + (by1 g.2).1.length ≤ 1099511627776 by omega)]
      by_cases e1 : (by1 g.2).2 = 0
      · by_cases e2 : 4096 < (out ++ lJ g.1 (by1 g.2).1).length
        · have e2' : (4096 : Int) < (((out ++ lJ g.1 (by1 g.2).1).length : Nat) : Int) := by omega
          simp only [e1, e2, e2', decide_true, Bool.not_true, cond_false, cond_true, ne_eq, not_true_eq_false, if_false, if_true]
        · have e2' : ¬ (4096 : Int) < (((out ++ lJ g.1 (by1 g.2).1).length : Nat) : Int) := by omega
          simp only [e1, e2, e2', decide_true, decide_false, Bool.not_true, cond_false, ne_eq, not_true_eq_false, if_false]
      · simp only [e1, decide_false, Bool.not_false, cond_true, ne_eq, not_false_eq_true, if_true]
    simp only [itG, rnd, hy, Option.bind_some, sY]
    by_cases e1 : (by1 g.2).2 ≠ 0
    · rw [if_pos e1, if_pos e1]; exact ⟨_, rfl, rfl⟩
    · rw [if_neg e1, if_neg e1]
      by_cases e2 : 4096 < (out ++ lJ g.1 (by1 g.2).1).length
      · rw [if_pos e2, if_pos e2]; exact ⟨_, rfl, rfl⟩
      · rw [if_neg e2, if_neg e2]
        exact KM c gs _ (by omega) (fun q hq => hg q (by simp [hq]))

theorem VH {l : List aC} (hl : okL l) {by0 : List aB → Option (List aB × Int)} {by1 : List aB → List aB × Int} (hb : ∀ g ∈ groups l, by0 g.2 = some (by1 g.2) ∧ (by1 g.2).1.length ≤ 1024 ∧ g.1.length ≤ 4398046510976) : rF l by0 = some (sY by1 (groups l) []) := by
  unfold rF
  simp only [nS, Option.bind_some, tK]
  obtain ⟨x, e1, e2⟩ := KM (by0 := by0) (by1 := by1) l (groups l) [] (by simp) hb
  rw [KC hl e1]
  cases x <;> simpa using e2

def flat (gs : List (List aJ × List aB)) : List aC := gs.flatMap fun g => lJ g.1 g.2

theorem KB : ∀ (l : List aC) (r : List aJ) (f : List aB), flat (gA r f l) = lJ r f ++ l
  | [], r, f => by simp [gA, flat]
  | e :: l, r, f => by
    unfold gA
    split
    · rename_i h
      rw [KB l r]
      simp [lJ, jE, ← h]
    · have := KB l e.Row [jE e]
      simp only [flat, List.flatMap_cons] at this ⊢
      rw [this]
      simp [lJ, jE]

theorem FX (l : List aC) : flat (groups l) = l := by
  cases l with
  | nil => rfl
  | cons e l => unfold groups; rw [KB]; simp [lJ, jE]

theorem MN {r : List aJ} : ∀ {l : List aC} {f : List aB} {g : List aJ × List aB}, g ∈ gA r f l → f ≠ [] → g.2 ≠ [] ∧ (g.1 = r ∨ ∃ e ∈ l, g.1 = e.Row)
  | [], f, g, h, hf => by simp only [gA, List.mem_singleton] at h; subst h; exact ⟨hf, .inl rfl⟩
  | e :: l, f, g, h, hf => by
    unfold gA at h
    split at h
    · obtain ⟨h1, h2⟩ := MN h (by simp)
      exact ⟨h1, h2.imp id fun ⟨x, hx, hx'⟩ => ⟨x, by simp [hx], hx'⟩⟩
    · rcases List.mem_cons.1 h with rfl | h
      · exact ⟨hf, .inl rfl⟩
      · obtain ⟨h1, h2⟩ := MN (r := e.Row) h (by simp)
        refine ⟨h1, .inr ?_⟩
        rcases h2 with h2 | ⟨x, hx, hx'⟩
        · exact ⟨e, by simp, h2⟩
        · exact ⟨x, by simp [hx], hx'⟩

theorem IP {l : List aC} {g : List aJ × List aB} (h : g ∈ groups l) : g.2 ≠ [] ∧ ∃ e ∈ l, g.1 = e.Row := by
  cases l with
  | nil => simp [groups] at h
  | cons e l =>
    obtain ⟨h1, h2⟩ := MN h (by simp)
    refine ⟨h1, ?_⟩
    rcases h2 with h2 | ⟨x, hx, hx'⟩
    · exact ⟨e, by simp, h2⟩
    · exact ⟨x, by simp [hx], hx'⟩

end Go.Abs
namespace Go.Abs
open Go
def jI (l : List aC) (r : List aJ) : List aB := (l.filter fun e => decide (e.Row = r)).map jE

theorem BN (a b : List aC) (r : List aJ) : jI (a ++ b) r = jI a r ++ jI b r := by simp [jI]

theorem LP (q : List aJ) (f : List aB) (r : List aJ) : jI (lJ q f) r = if q = r then f else [] := by
  induction f with
  | nil => simp [jI, lJ]
  | cons j f ih =>
    have h1 : lJ q (j :: f) = [⟨q, j.At, j.Net⟩] ++ lJ q f := rfl
    rw [h1, BN, ih]
    by_cases h : q = r <;> simp [jI, jE, h]

def look : List (List aJ × List aB) → List aJ → List aB
  | [], _ => []
  | g :: gs, r => if g.1 = r then g.2 else look gs r

theorem AQ (g : List aJ × List aB) (gs : List (List aJ × List aB)) (r : List aJ) : look (g :: gs) r = if g.1 = r then g.2 else look gs r := rfl

abbrev ltG (a b : List aJ × List aB) : Prop := kT a.1 b.1 < 0

abbrev HC (gs : List (List aJ × List aB)) : Prop := gs.Pairwise ltG

theorem xC {a : List aJ} : ¬ kT a a < 0 := by rw [(mS.eq a a).2 rfl]; omega

theorem KS : ∀ {gs : List (List aJ × List aB)} {r : List aJ}, (∀ g ∈ gs, g.1 ≠ r) → look gs r = []
  | [], _, _ => rfl
  | g :: gs, r, h => by
    rw [AQ]
    rw [if_neg (h g (by simp))]
    exact KS fun q hq => h q (by simp [hq])

theorem TG (gs : List (List aJ × List aB)) (r : List aJ) : (look gs r = [] ∧ ∀ g ∈ gs, g.1 ≠ r) ∨ ∃ g ∈ gs, g.1 = r ∧ look gs r = g.2 := by
  induction gs with
  | nil => exact .inl ⟨rfl, by simp⟩
  | cons g gs ih =>
    rw [AQ]
    by_cases h : g.1 = r
    · rw [if_pos h]; exact .inr ⟨g, by simp, h, rfl⟩
    · rw [if_neg h]
      rcases ih with ⟨h1, h2⟩ | ⟨q, hq, h1, h2⟩
      · refine .inl ⟨h1, fun q hq => ?_⟩
        rcases List.mem_cons.1 hq with rfl | hq
        · exact h
        · exact h2 q hq
      · exact .inr ⟨q, by simp [hq], h1, h2⟩

theorem DB {gs : List (List aJ × List aB)} (hs : HC gs) {g : List aJ × List aB} (hg : g ∈ gs) : look gs g.1 = g.2 := by
  induction gs with
  | nil => simp at hg
  | cons q gs ih =>
    have hs' := List.pairwise_cons.1 hs
    rw [AQ]
    rcases List.mem_cons.1 hg with rfl | hg
    · rw [if_pos rfl]
    · rw [if_neg (fun e => by have := hs'.1 g hg; simp only [ltG, e] at this; exact xC this)]
      exact ih hs'.2 hg

theorem LG (g : List aJ × List aB) (gs : List (List aJ × List aB)) : flat (g :: gs) = lJ g.1 g.2 ++ flat gs := rfl

theorem ER : ∀ {gs : List (List aJ × List aB)}, HC gs → ∀ r, jI (flat gs) r = look gs r
  | [], _, r => rfl
  | g :: gs, hs, r => by
    have hs' := List.pairwise_cons.1 hs
    rw [LG, BN, LP, ER hs'.2, AQ]
    by_cases h : g.1 = r
    · rw [if_pos h, if_pos h, KS, List.append_nil]
      intro q hq e
      have := hs'.1 q hq
      simp only [ltG, h, e] at this; exact xC this
    · rw [if_neg h, if_neg h]; rfl

theorem xX {p : List aB → Bool} : ∀ {gs : List (List aJ × List aB)} {last : Option (List aJ)}, uR p last gs = true ↔ (∀ g ∈ gs, pM g.1 = true ∧ p g.2 = true) ∧ HC gs ∧ (∀ q, last = some q → ∀ g ∈ gs, kT q g.1 < 0)
  | [], last => by simp [uR]
  | g :: gs, last => by
    unfold uR
    simp only [Bool.and_eq_true, xX (gs := gs), List.mem_cons, List.pairwise_cons]
    constructor
    · rintro ⟨⟨⟨h1, h2⟩, h3⟩, h4, h5, h6⟩
      refine ⟨?_, ⟨fun q hq => h6 _ rfl q hq, h5⟩, ?_⟩
      · rintro q (rfl | hq)
        · exact ⟨h1, h3⟩
        · exact h4 q hq
      · rintro q rfl x (rfl | hx)
        · simpa [ahd] using h2
        · simp only [ahd, decide_eq_true_eq] at h2
          exact mS.trans _ _ _ h2 (h6 _ rfl x hx)
    · rintro ⟨h1, ⟨h2, h3⟩, h4⟩
      refine ⟨⟨⟨(h1 g (.inl rfl)).1, ?_⟩, (h1 g (.inl rfl)).2⟩, fun q hq => h1 q (.inr hq), h3, ?_⟩
      · unfold ahd
        split
        · rfl
        · exact decide_eq_true (h4 _ rfl g (.inl rfl))
      · rintro q hq x hx
        cases hq
        exact h2 x hx

theorem JT {l : List aC} (h : BD l = true) : l.length ≤ 4096 ∧ (∀ g ∈ groups l, pM g.1 = true ∧ mM g.2 = true) ∧ HC (groups l) := by
  simp only [BD, Bool.and_eq_true, decide_eq_true_eq] at h
  obtain ⟨h1, h2, _⟩ := xX.1 h.2
  exact ⟨h.1, h1, h2⟩

theorem wN {l : List aC} (h : HC (groups l)) (r : List aJ) : look (groups l) r = jI l r := by
  rw [← ER h, FX]

theorem SB (r : List aJ) (f : List aB) (e : aC) (l : List aC) : gA r f (e :: l) = if e.Row = r then gA r (f ++ [jE e]) l else (r, f) :: gA e.Row [jE e] l := rfl

def SS (by1 : List aB → List aB × Int) (gs : List (List aJ × List aB)) : List (List aJ × List aB) := gs.map fun g => (g.1, (by1 g.2).1)

theorem RF {by1 : List aB → List aB × Int} : ∀ {gs : List (List aJ × List aB)} {out : List aC}, out.length ≤ 4096 → (sY by1 gs out).2 = 0 → (∀ g ∈ gs, (by1 g.2).2 = 0) ∧ (sY by1 gs out).1 = out ++ flat (SS by1 gs) ∧ (sY by1 gs out).1.length ≤ 4096
  | [], out, ho, _ => by simp [sY, SS, flat, ho]
  | g :: gs, out, ho, h => by
    unfold sY at h ⊢
    by_cases e1 : (by1 g.2).2 = 0
    · rw [if_neg (by simp [e1])] at h ⊢
      by_cases e2 : 4096 < (out ++ lJ g.1 (by1 g.2).1).length
      · rw [if_pos e2] at h; simp at h
      · rw [if_neg e2] at h ⊢
        obtain ⟨h1, h2, h3⟩ := RF (by omega) h
        refine ⟨?_, ?_, h3⟩
        · intro q hq
          rcases List.mem_cons.1 hq with rfl | hq
          · exact e1
          · exact h1 q hq
        · rw [h2]; simp [SS, LG]
    · rw [if_pos e1] at h; exact absurd h e1

theorem NF {by1 : List aB → List aB × Int} : ∀ {gs : List (List aJ × List aB)} {out : List aC}, (sY by1 gs out).2 ≠ 0 → (sY by1 gs out).1 = []
  | [], out, h => by simp [sY] at h
  | g :: gs, out, h => by
    unfold sY at h ⊢
    split
    · rfl
    · rename_i e1
      rw [if_neg e1] at h
      split
      · rfl
      · rename_i e2
        rw [if_neg e2] at h
        exact NF h

theorem KU {l : List aC} (hl : okL l) {g : List aJ × List aB} (hg : g ∈ groups l) : g.1.length ≤ 4398046510976 := by
  obtain ⟨_, e, he, h⟩ := IP hg
  rw [h]; exact hl.2 e he

end Go.Abs
namespace Go.Abs
theorem VK : @dJ = @mP aC _ := rfl

theorem SO : @dP = @dV aC _ := rfl

theorem OD (cmp) : ∀ k, @gC cmp k = @dW aC _ cmp k
  | 0 => rfl
  | k + 1 => by
    show dP cmp _ = dV cmp _
    rw [OD cmp k, SO]

theorem VS : @eC = @nY aC _ := by
  funext d a m b cmp
  unfold eC nY
  simp only [OD]

theorem MY : @eY = @vR aC _ := by
  funext d n cmp
  unfold eY vR hM xR
  unfold gT lQ eT xT
  unfold iD xP gY jF
  unfold gO tY hU lT
  unfold eN uK
  rw [VS, VK]
  rfl

end Go.Abs
namespace Go.Abs
open Go
theorem EA {l : List aC} {f : aC → Option Bool} {g : aC → Bool} (hl : l.length ≤ 1099511627776) (hf : ∀ x ∈ l, f x = some (g x)) : cP l f = some (l.any g) := by
  unfold cP fJ fF
  obtain ⟨x, e, hx⟩ := zO hl hf l 0 rfl (Nat.zero_le _)
  have e' : lp (fun s => fD f l (l.length : Nat) s) 0 = some x := e
  rw [e']
  rcases hx with ⟨rfl, h⟩ | ⟨i, rfl, _, _, h, _⟩
  · simp [dL, h]
  · simp [h]

def unE (e : aC) : Bool := ((!pM e.Row) || (decide ((1048576 : Int) < e.Net))) || (decide (e.Net < (-1048576 : Int)))

def MX (e : aC) : Bool := (decide (e.At < (-1 : Int))) || (decide ((1125899906842624 : Int) < e.At))

def SM (x y : aC) : Int := if kT x.Row y.Row ≠ 0 then kT x.Row y.Row else pO x.At y.At

abbrev okE (x : aC) : Prop := pM x.Row = true

abbrev leE (x y : aC) : Prop := kT x.Row y.Row < 0 ∨ (x.Row = y.Row ∧ x.At ≤ y.At)

theorem or_eq (a b : Int) : sW [a, b] = some (if a ≠ 0 then a else b) := by
  unfold sW uQ
  have w1 : IntKind.i64.wrap (1 : Int) = 1 := by rw [iQ] <;> omega
  have w2 : IntKind.i64.wrap (2 : Int) = 2 := by rw [iQ] <;> omega
  have b0 : (fun s => gK 0 [a, b] (([a, b] : List Int).length : Nat) s) (0 : Int) = some (if a ≠ 0 then .inr (.inr a) else .inl 1) := by
    show gK _ _ _ _ = _
    unfold gK
    rw [bE ⟨by omega, by simp⟩]
    by_cases h : a = 0 <;> simp [h, w1]
  have b1 : (fun s => gK 0 [a, b] (([a, b] : List Int).length : Nat) s) (1 : Int) = some (if b ≠ 0 then .inr (.inr b) else .inl 2) := by
    show gK _ _ _ _ = _
    unfold gK
    rw [bE ⟨by omega, by simp⟩]
    by_cases h : b = 0 <;> simp [h, w2]
  have b2 : (fun s => gK 0 [a, b] (([a, b] : List Int).length : Nat) s) (2 : Int) = some (.inr (.inl ())) := by
    show gK _ _ _ _ = _
    unfold gK
    simp
  by_cases h : a = 0
  · rw [if_neg (by simp [h])] at b0
    rw [eW b0]
    by_cases h2 : b = 0
    · rw [if_neg (by simp [h2])] at b1
      rw [eW b1, cR b2]
      simp [rM, h, h2]
    · rw [if_pos h2] at b1
      rw [cR b1]
      simp [h]
  · rw [if_pos h] at b0
    rw [cR b0]
    simp [h]

theorem ZF {x y : aC} (hx : okE x) (hy : okE y) : mF x y = some (SM x y) := by
  unfold mF SM
  rw [KW, hx, hy]
  simp only [Bool.and_self, if_true, Option.bind_some, LA, or_eq]

theorem ZG (x y : aC) : SM x y < 0 ↔ ¬ leE y x := by
  unfold SM leE
  have ha := mS.anti x.Row y.Row
  have hb := mS.anti y.Row x.Row
  have he := mS.eq x.Row y.Row
  by_cases h : kT x.Row y.Row = 0
  · rw [if_neg (by simp [h])]
    have e := he.1 h
    have : ¬ kT y.Row x.Row < 0 := by rw [e]; exact xC
    unfold pO
    constructor
    · intro h1 h2
      rcases h2 with h2 | ⟨_, h2⟩
      · exact this h2
      · split at h1
        · omega
        · split at h1 <;> omega
    · intro h1
      have : ¬ y.At ≤ x.At := fun h2 => h1 (.inr ⟨e.symm, h2⟩)
      rw [if_pos (by omega)]; omega
  · rw [if_pos h]
    have hne : y.Row ≠ x.Row := fun e => h (he.2 e.symm)
    constructor
    · intro h1 h2
      rcases h2 with h2 | ⟨h2, _⟩
      · have := hb.1 h2; omega
      · exact hne h2
    · intro h1
      have : ¬ kT y.Row x.Row < 0 := fun h2 => h1 (.inl h2)
      rw [hb] at this
      omega

theorem UP (x y : aC) : leE x y ∨ leE y x := by
  unfold leE
  by_cases h : kT x.Row y.Row = 0
  · have e := (mS.eq _ _).1 h
    rcases Int.le_total x.At y.At with h1 | h1
    · exact .inl (.inr ⟨e, h1⟩)
    · exact .inr (.inr ⟨e.symm, h1⟩)
  · by_cases h1 : kT x.Row y.Row < 0
    · exact .inl (.inl h1)
    · exact .inr (.inl ((mS.anti _ _).2 (by omega)))

theorem WL {x y z : aC} (h1 : leE x y) (h2 : leE y z) : leE x z := by
  rcases h1 with h1 | ⟨e1, h1⟩ <;> rcases h2 with h2 | ⟨e2, h2⟩
  · exact .inl (mS.trans _ _ _ h1 h2)
  · exact .inl (e2 ▸ h1)
  · exact .inl (e1.symm ▸ h2)
  · exact .inr ⟨e1.trans e2, by omega⟩

theorem aAN : Cmp okE leE (fun y0 y1 => mF y0 y1) where
  ans x y hx hy := ⟨_, ZF hx hy, ZG x y⟩
  trans x y z _ _ _ h1 h2 := WL h1 h2
  total x y _ _ := UP x y

theorem aAL {l : List aC} (hl : l.length ≤ 1099511627776) (ho : ∀ e ∈ l, okE e) : ∃ r, r.Perm l ∧ Srt leE r ∧ cY l (fun y0 y1 => mF y0 y1) = some r := by
  obtain ⟨r, r1, r2, r3⟩ := KX aAN (d := l) ho hl
  refine ⟨r, r1, r2, ?_⟩
  unfold cY
  rw [MY, r3]; rfl

theorem OZ : ∀ {l : List aC} {r : List aJ} {f : List aB}, Srt leE l → (∀ e ∈ l, e.Row = r ∨ kT r e.Row < 0) → HC (gA r f l) ∧ ∀ g ∈ gA r f l, g.1 = r ∨ kT r g.1 < 0
  | [], r, f, _, _ => by simp [gA]
  | e :: l, r, f, hs, hr => by
    have hs' := List.pairwise_cons.1 hs
    rw [SB]
    by_cases h : e.Row = r
    · rw [if_pos h]
      exact OZ hs'.2 (fun x hx => hr x (by simp [hx]))
    · rw [if_neg h]
      have hlt : kT r e.Row < 0 := (hr e (by simp)).resolve_left h
      obtain ⟨h1, h2⟩ := OZ (r := e.Row) (f := [jE e]) hs'.2 (fun x hx => by
        rcases hs'.1 x hx with h | ⟨h, _⟩
        · exact .inr h
        · exact .inl h.symm)
      have key : ∀ g ∈ gA e.Row [jE e] l, kT r g.1 < 0 := fun g hg => by
        rcases h2 g hg with h | h
        · rw [h]; exact hlt
        · exact mS.trans _ _ _ hlt h
      refine ⟨List.pairwise_cons.2 ⟨key, h1⟩, ?_⟩
      intro g hg
      rcases List.mem_cons.1 hg with rfl | hg
      · exact .inl rfl
      · exact .inr (key g hg)

theorem wQ {l : List aC} (hs : Srt leE l) : HC (groups l) := by
  cases l with
  | nil => exact List.Pairwise.nil
  | cons e l =>
    have hs' := List.pairwise_cons.1 hs
    exact (OZ hs'.2 (fun x hx => by
      rcases hs'.1 x hx with h | ⟨h, _⟩
      · exact .inr h
      · exact .inl h.symm)).1

abbrev EW (rs : List (List aJ)) : Prop := rs.Pairwise fun a b => kT a b < 0

def zZ (r : List aJ) : List (List aJ) → List (List aJ)
  | [] => [r]
  | x :: xs => if kT x r < 0 then x :: zZ r xs else if x = r then x :: xs else r :: x :: xs

def rowsOf (l : List aC) : List (List aJ) := l.foldl (fun rs e => zZ e.Row rs) []

theorem GO {r x : List aJ} : ∀ {rs : List (List aJ)}, x ∈ zZ r rs ↔ x = r ∨ x ∈ rs
  | [] => by simp [zZ]
  | y :: ys => by
    unfold zZ
    split
    · simp only [List.mem_cons, GO (rs := ys)]
      constructor
      · rintro (h | h | h)
        · exact .inr (.inl h)
        · exact .inl h
        · exact .inr (.inr h)
      · rintro (h | h | h)
        · exact .inr (.inl h)
        · exact .inl h
        · exact .inr (.inr h)
    · split
      · rename_i h; subst h; simp
      · simp

theorem NG {r : List aJ} : ∀ {rs : List (List aJ)}, EW rs → EW (zZ r rs)
  | [], _ => by simp [zZ]
  | y :: ys, hs => by
    have hs' := List.pairwise_cons.1 hs
    unfold zZ
    split
    · rename_i h
      refine List.pairwise_cons.2 ⟨fun z hz => ?_, NG hs'.2⟩
      rcases GO.1 hz with rfl | hz
      · exact h
      · exact hs'.1 z hz
    · rename_i h
      split
      · exact hs
      · rename_i hne
        have hlt : kT r y < 0 := by
          have h0 : kT y r ≠ 0 := fun e => hne ((mS.eq _ _).1 e)
          exact (mS.anti _ _).2 (by omega)
        refine List.pairwise_cons.2 ⟨fun z hz => ?_, hs⟩
        rcases List.mem_cons.1 hz with rfl | hz
        · exact hlt
        · exact mS.trans _ _ _ hlt (hs'.1 z hz)

theorem EC : ∀ (l : List aC) (rs : List (List aJ)), EW rs → EW (l.foldl (fun rs e => zZ e.Row rs) rs) ∧ ∀ x, x ∈ l.foldl (fun rs e => zZ e.Row rs) rs ↔ x ∈ rs ∨ ∃ e ∈ l, e.Row = x
  | [], rs, hs => ⟨hs, by simp⟩
  | e :: l, rs, hs => by
    obtain ⟨h1, h2⟩ := EC l (zZ e.Row rs) (NG hs)
    refine ⟨h1, fun x => ?_⟩
    simp only [List.foldl_cons]
    rw [h2 x, GO]
    simp only [List.mem_cons, exists_eq_or_imp]
    constructor
    · rintro ((h | h) | h)
      · exact .inr (.inl h.symm)
      · exact .inl h
      · exact .inr (.inr h)
    · rintro (h | h | h)
      · exact .inl (.inr h)
      · exact .inl (.inl h.symm)
      · exact .inr h

theorem SL (l : List aC) : EW (rowsOf l) := (EC l [] List.Pairwise.nil).1

theorem IU {l : List aC} {x : List aJ} : x ∈ rowsOf l ↔ ∃ e ∈ l, e.Row = x := by
  have := (EC l [] List.Pairwise.nil).2 x
  simpa [rowsOf] using this

theorem OY : ∀ {a b : List (List aJ)}, EW a → EW b → (∀ x, x ∈ a ↔ x ∈ b) → a = b
  | [], [], _, _, _ => rfl
  | [], y :: ys, _, _, h => absurd ((h y).2 (by simp)) (by simp)
  | x :: xs, [], _, _, h => absurd ((h x).1 (by simp)) (by simp)
  | x :: xs, y :: ys, ha, hb, h => by
    have ha' := List.pairwise_cons.1 ha
    have hb' := List.pairwise_cons.1 hb
    have e : x = y := by
      rcases List.mem_cons.1 ((h x).1 (by simp)) with h1 | h1
      · exact h1
      · rcases List.mem_cons.1 ((h y).2 (by simp)) with h2 | h2
        · exact h2.symm
        · exact absurd (mS.trans _ _ _ (hb'.1 x h1) (ha'.1 y h2)) xC
    subst e
    rw [OY ha'.2 hb'.2 fun z => ?_]
    constructor
    · intro hz
      rcases List.mem_cons.1 ((h z).1 (by simp [hz])) with h1 | h1
      · subst h1; exact absurd (ha'.1 z hz) xC
      · exact h1
    · intro hz
      rcases List.mem_cons.1 ((h z).2 (by simp [hz])) with h1 | h1
      · subst h1; exact absurd (hb'.1 z hz) xC
      · exact h1

def NI (l : List aC) : List (List aJ × List aB) := (rowsOf l).map fun r => (r, jI l r)

theorem PL {a b : List aC} (h : a.Perm b) (r : List aJ) : (jI a r).Perm (jI b r) := (h.filter _).map _

theorem PU {l l' : List aC} (hp : l'.Perm l) (hs : Srt leE l') : (groups l').map (·.1) = rowsOf l := by
  refine OY ?_ (SL l) fun x => ?_
  · rw [EW, List.pairwise_map]; exact wQ hs
  · rw [IU]
    constructor
    · intro h
      obtain ⟨g, hg, rfl⟩ := List.mem_map.1 h
      obtain ⟨_, e, he, h1⟩ := IP hg
      exact ⟨e, hp.mem_iff.1 he, h1.symm⟩
    · rintro ⟨e, he, rfl⟩
      have he' : e ∈ flat (groups l') := by rw [FX]; exact hp.mem_iff.2 he
      obtain ⟨g, hg, h1⟩ := List.mem_flatMap.1 he'
      obtain ⟨j, _, rfl⟩ := List.mem_map.1 h1
      exact List.mem_map.2 ⟨g, hg, rfl⟩

theorem XO {l : List aB} (ht : ∀ j ∈ l, -2 < j.At) : Up (-2) (DH l) :=
  CI (by rw [List.map_map]; simpa [Function.comp_def] using EL ht)

theorem UZ {l : List aB} (ht : ∀ j ∈ l, -2 < j.At) {t : Int} (h1 : -2 < t) (h2 : t < 1125899906842624) : val (DH l) t = val l t := by
  have h0 : val l (-2) = 0 := yD fun j hj => ht j hj
  have := EZ (F := val l) (EL ht) (fun s t' _ hst hlt hn => ED hst fun j hj hc => hn j.At (HG.2 (Or.inr ⟨j, List.mem_filter.2 ⟨hj, by simp; omega⟩, rfl⟩)) hc) t (by omega) h2
  rw [h0] at this
  unfold DH
  rw [this]; omega

theorem TI {f g : List aB} (h : f.Perm g) (hf : f.any DW = false) : DH f = DH g := by
  have hg : ∀ j ∈ g, -2 < j.At := fun j hj => (CZ hf j (h.mem_iff.2 hj)).1
  exact MQ (fun j hj => (CZ hf j hj).1) (XO hg) fun t h1 h2 => by rw [UZ hg h1 h2, NB h]

theorem HH {f g : List aB} (h : f.Perm g) (p : aB → Bool) : f.any p = g.any p := by
  cases h1 : g.any p
  · rw [List.any_eq_false] at h1 ⊢
    exact fun x hx => h1 x (h.mem_iff.1 hx)
  · obtain ⟨x, hx, hp⟩ := List.any_eq_true.1 h1
    exact List.any_eq_true.2 ⟨x, h.mem_iff.2 hx, hp⟩

theorem SH {f g : List aB} (h : f.Perm g) : qI f = qI g := by
  unfold qI
  rw [HH h zL, HH h DW]
  split
  · rfl
  · split
    · rfl
    · rename_i h2
      rw [TI h (by rw [HH h DW]; simpa using h2)]

theorem UT (l : List aB) : (qI l).1.length ≤ 1024 := by
  unfold qI
  split
  · simp
  · split
    · simp
    · exact XG _

theorem HO {by1 : List aB → List aB × Int} : ∀ {gs hs : List (List aJ × List aB)} {out : List aC}, gs.map (fun g => (g.1, by1 g.2)) = hs.map (fun g => (g.1, by1 g.2)) → sY by1 gs out = sY by1 hs out
  | [], [], _, _ => rfl
  | [], _ :: _, _, h => by simp at h
  | _ :: _, [], _, h => by simp at h
  | g :: gs, k :: hs, out, h => by
    simp only [List.map_cons, List.cons.injEq, Prod.mk.injEq] at h
    obtain ⟨⟨h1, h2⟩, h3⟩ := h
    unfold sY
    rw [h1, h2]
    split
    · rfl
    · split
      · rfl
      · exact HO h3

theorem PZ {l l' : List aC} (hp : l'.Perm l) (hs : Srt leE l') : (groups l').map (fun g => (g.1, qI g.2)) = (NI l).map (fun g => (g.1, qI g.2)) := by
  have h1 : (groups l').map (fun g => (g.1, qI g.2)) = ((groups l').map (·.1)).map (fun r => (r, qI (jI l r))) := by
    rw [List.map_map]
    apply List.map_congr_left
    intro g hg
    have hj : g.2 = jI l' g.1 := by rw [← wN (wQ hs), DB (wQ hs) hg]
    simp only [Function.comp]
    rw [hj, SH (PL hp g.1)]
  rw [h1, PU hp hs, NI, List.map_map]
  rfl

def vE (l : List aC) : List aC × Int := if l.any unE then ([], 2) else if l.any MX then ([], 13) else sY qI (NI l) []

theorem ZY {l : List aC} (h : l.any unE = false) : ∀ e ∈ l, pM e.Row = true ∧ e.Net ≤ 1048576 ∧ -1048576 ≤ e.Net := by
  intro e he
  have := List.any_eq_false.1 h e he
  simp only [unE, Bool.or_eq_true, not_or, Bool.not_eq_true', decide_eq_true_eq, Bool.not_eq_false, Bool.not_eq_true] at this
  exact ⟨by simpa using this.1.1, by omega, by omega⟩

theorem WX {l : List aC} (hl : okL l) (hn : l.length ≤ 1099511627776) : uG l = some (vE l) := by
  unfold uG vE
  rw [EA (g := unE) hn (fun x _ => by simp [rE, BY, unE])]
  simp only [Option.bind_some]
  cases h1 : l.any unE
  · rw [EA (f := fun y0 => rA y0) (g := MX) hn (fun x _ => rfl)]
    simp only [cond_false, Option.bind_some, Bool.false_eq_true, if_false]
    cases h2 : l.any MX
    · simp only [cond_false, Bool.false_eq_true, if_false]
      have hc : eS l = some l := by unfold eS; exact bE ⟨by omega, by omega⟩
      obtain ⟨r, r1, r2, r3⟩ := aAL hn (fun e he => (ZY h1 e he).1)
      rw [hc]
      simp only [Option.bind_some]
      rw [r3]
      simp only [Option.bind_some]
      have hr : okL r := ⟨by rw [r1.length_eq]; exact hl.1, fun e he => hl.2 e (r1.mem_iff.1 he)⟩
      rw [VH hr (by1 := qI) (fun g hg => ⟨by
        unfold qV
        have hgl : g.2.length ≤ 1099511627776 := by
          have h3 : g.2 = jI r g.1 := by rw [← wN (wQ r2), DB (wQ r2) hg]
          rw [h3, jI, List.length_map]
          exact Nat.le_trans (List.length_filter_le _ _) (by rw [r1.length_eq]; exact hn)
        rw [norm_eq hgl]; rfl, UT _, KU hr hg⟩)]
      simp only [Option.bind_some]
      rw [HO (PZ r1 r2)]
    · simp
  · simp

theorem WS {l : List aC} (h : (vE l).2 = 0) : l.any unE = false ∧ l.any MX = false ∧ (∀ g ∈ NI l, (qI g.2).2 = 0) ∧ (vE l).1 = flat (SS qI (NI l)) ∧ (vE l).1.length ≤ 4096 := by
  unfold vE at h ⊢
  cases h1 : l.any unE
  · rw [h1] at h
    simp only [Bool.false_eq_true, if_false] at h ⊢
    cases h2 : l.any MX
    · rw [h2] at h
      simp only [Bool.false_eq_true, if_false] at h ⊢
      obtain ⟨a, b, c⟩ := RF (by simp) h
      exact ⟨trivial, trivial, a, by simpa using b, c⟩
    · rw [h2] at h; simp at h
  · rw [h1] at h; simp at h

theorem UD {l : List aC} (h : (vE l).2 ≠ 0) : (vE l).1 = [] := by
  unfold vE at h ⊢
  split
  · rfl
  · rename_i h1
    rw [if_neg h1] at h
    split
    · rfl
    · rename_i h2
      rw [if_neg h2] at h
      exact NF h

end Go.Abs
namespace Go.Abs
open Go
def SW (s : aQ) : Bool := (decide (0 ≤ s.From) && decide (s.From ≤ 1125899906842624)) && (decide (0 ≤ s.To) && decide (s.To ≤ 1125899906842624)) && decide (s.From < s.To)

theorem SG (s : aQ) : wM s = some (SW s) := by
  unfold wM uL SW
  simp only [Option.bind_some]
  cases h : (decide (0 ≤ s.From) && decide (s.From ≤ 1125899906842624)) <;> simp [cL]

end Go.Abs
namespace Go.Abs
open Go
theorem KG : okL [] := ⟨by simp, by simp⟩

theorem WM {gs : List (List aJ × List aB)} (h : ∀ g ∈ gs, g.1.length ≤ 4398046510976) (hl : (flat gs).length ≤ 4096) : okL (flat gs) := by
  refine ⟨by omega, fun e he => ?_⟩
  obtain ⟨g, hg, h1⟩ := List.mem_flatMap.1 he
  obtain ⟨j, _, rfl⟩ := List.mem_map.1 h1
  exact h g hg

theorem UI {l : List aC} (hl : okL l) : okL (vE l).1 := by
  by_cases h : (vE l).2 = 0
  · obtain ⟨_, _, _, h4, h5⟩ := WS h
    rw [h4] at h5 ⊢
    refine WM (fun g hg => ?_) h5
    obtain ⟨q, hq, rfl⟩ := List.mem_map.1 hg
    obtain ⟨r, hr, rfl⟩ := List.mem_map.1 hq
    obtain ⟨e, he, rfl⟩ := IU.1 hr
    exact hl.2 e he
  · rw [UD h]; exact KG

end Go.Abs
namespace Go.Abs
open Go
theorem FY {σ : Type} {y : σ → List aJ → List aB → Option (σ × Bool)} (c : List aC) : ∀ (gs : List (List aJ × List aB)) (s s' : σ), itG y gs s = some s' →
    ∃ x, itG (fun st t10 t11 => rnd (fun (s : σ) => iZ y c s t10 t11) st) gs (.inl s) = some x ∧ Sum.elim id id x = s'
  | [], s, s', h => by simp only [itG, Option.some.injEq] at h; exact ⟨_, rfl, h⟩
  | g :: gs, s, s', h => by
    simp only [itG] at h
    obtain ⟨z, hz, h⟩ := aW h
    have hl : iZ y c s g.1 g.2 = some (if z.2 then .inl z.1 else .inr z.1) := by
      unfold iZ
      rw [hz]
      obtain ⟨z1, z2⟩ := z
      cases z2 <;> rfl
    cases h2 : z.2
    · rw [h2] at h hl
      simp only [Bool.false_eq_true, if_false, Option.some.injEq] at h hl
      refine ⟨.inr z.1, ?_, h⟩
      simp [itG, rnd, hl]
    · rw [h2] at h hl
      simp only [if_true] at h hl
      obtain ⟨x, h3, h4⟩ := FY c gs z.1 s' h
      refine ⟨x, ?_, h4⟩
      simp only [itG, rnd, hl, Option.bind_some, Sum.isLeft_inl, if_true]
      exact h3

theorem HQ {σ : Type} {y : σ → List aJ → List aB → Option (σ × Bool)} {l : List aC} (hl : okL l) {s s' : σ} (h : itG y (if BD l then groups l else []) s = some s') : lZ y l s = some s' := by
  unfold lZ
  rw [RA hl]
  cases hm : BD l
  · rw [hm] at h
    simp only [Bool.false_eq_true, if_false, itG] at h
    simpa using h
  · rw [hm] at h
    simp only [if_true] at h
    simp only [Option.bind_some, Bool.not_true, cond_false, nS, pH]
    obtain ⟨x, h1, h2⟩ := FY l (groups l) s s' h
    rw [KC hl h1]
    cases x <;> simpa using h2

end Go.Abs
namespace Go.Abs
open Go
theorem RG {c : Int} : ∀ {l : List Int} {m : Int}, c ≤ l.foldl mn m ↔ c ≤ m ∧ ∀ x ∈ l, c ≤ x
  | [], m => by simp
  | a :: l, m => by
    rw [List.foldl_cons, RG]
    unfold mn
    constructor
    · rintro ⟨h1, h2⟩
      have h3 : c ≤ m ∧ c ≤ a := by split at h1 <;> omega
      refine ⟨h3.1, fun x hx => ?_⟩
      rcases List.mem_cons.1 hx with rfl | hx
      · exact h3.2
      · exact h2 x hx
    · rintro ⟨h1, h2⟩
      have := h2 a (by simp)
      exact ⟨by split <;> omega, fun x hx => h2 x (by simp [hx])⟩

theorem KL {t : Int} : ∀ {f : List aB} {l v : Int}, wI l f → v + val f t = v ∨ v + val f t ∈ parts v f
  | [], l, v, _ => .inl (by simp [val])
  | j :: r, l, v, h => by
    unfold parts
    rw [dK]
    by_cases e : j.At ≤ t
    · rw [if_pos e]
      right
      rcases KL (t := t) (v := v + j.Net) h.2 with h1 | h1
      · rw [show v + (j.Net + val r t) = v + j.Net by omega]; simp
      · rw [show v + (j.Net + val r t) = v + j.Net + val r t by omega]; exact List.mem_cons_of_mem _ h1
    · left
      rw [if_neg e, h.2.yL (by omega)]; omega

theorem LC {f : List aB} (hf : mM f = true) : 0 ≤ BI f ↔ ∀ t, 0 ≤ val f t := by
  have hr := (tN.1 hf).2
  unfold BI
  rw [RG]
  constructor
  · rintro ⟨_, h2⟩ t
    rcases KL (t := t) (v := 0) hr with h | h
    · omega
    · rw [parts_eq hr] at h
      obtain ⟨j, hj, h⟩ := List.mem_map.1 h
      have := h2 _ (List.mem_map.2 ⟨j, hj, rfl⟩)
      omega
  · intro h
    refine ⟨h _, fun x hx => ?_⟩
    obtain ⟨j, _, rfl⟩ := List.mem_map.1 hx
    exact h _

theorem UC {l : List aC} : zP l = true ↔ BD l = true ∧ ∀ r t, 0 ≤ val (jI l r) t := by
  constructor
  · intro h
    unfold zP at h
    rw [Bool.and_eq_true, xX] at h
    obtain ⟨h1, h2, h3, _⟩ := h
    have hm : BD l = true := by
      unfold BD
      rw [Bool.and_eq_true]
      exact ⟨h1, xX.2 ⟨fun g hg => ⟨(h2 g hg).1, by have := (h2 g hg).2; unfold JX at this; rw [Bool.and_eq_true] at this; exact this.1⟩, h3, fun q hq => by cases hq⟩⟩
    refine ⟨hm, fun r => ?_⟩
    rw [← wN h3]
    rcases TG (groups l) r with ⟨e, _⟩ | ⟨g, hg, _, e⟩
    · rw [e]; intro t; simp [val]
    · rw [e]
      have := (h2 g hg).2
      unfold JX at this
      rw [Bool.and_eq_true, decide_eq_true_eq] at this
      exact (LC this.1).1 this.2
  · rintro ⟨hm, h⟩
    obtain ⟨h1, h2, h3⟩ := JT hm
    unfold zP
    rw [Bool.and_eq_true]
    refine ⟨by simpa using h1, xX.2 ⟨fun g hg => ⟨(h2 g hg).1, ?_⟩, h3, fun q hq => by cases hq⟩⟩
    unfold JX
    rw [Bool.and_eq_true, decide_eq_true_eq]
    refine ⟨(h2 g hg).2, (LC (h2 g hg).2).2 ?_⟩
    have : g.2 = jI l g.1 := by rw [← wN h3, DB h3 hg]
    rw [this]; exact h g.1

end Go.Abs
namespace Go.Abs
open Go
def sF (f : List aB) : List Int := f.flatMap fun j => List.replicate j.Net.toNat j.At

def ends (f : List aB) : List Int := f.flatMap fun j => List.replicate (-j.Net).toNat j.At

def nG (f : List aB) : Int := (f.map fun j => if 0 < j.Net then j.Net else 0).sum

def pairs (d : Int) : List Int → List Int → List aQ
  | [], _ => []
  | b :: bs, [] => ⟨b, d⟩ :: pairs d bs []
  | b :: bs, e :: es => ⟨b, e⟩ :: pairs d bs es

theorem xI (j : aB) (f : List aB) : sF (j :: f) = List.replicate j.Net.toNat j.At ++ sF f := rfl

theorem KJ (j : aB) (f : List aB) : ends (j :: f) = List.replicate (-j.Net).toNat j.At ++ ends f := rfl

theorem zA (j : aB) (f : List aB) : nG (j :: f) = (if 0 < j.Net then j.Net else 0) + nG f := by simp [nG]

theorem sL : ∀ f : List aB, 0 ≤ nG f
  | [] => by simp [nG]
  | j :: f => by rw [zA]; have := sL f; split <;> omega

theorem zM : ∀ f : List aB, nG f = ((sF f).length : Nat)
  | [] => rfl
  | j :: f => by
    rw [zA, xI, List.length_append, List.length_replicate, zM f]
    split <;> omega

theorem tF (d : Int) : ∀ (B E : List Int), (pairs d B E).length = B.length
  | [], _ => rfl
  | _ :: bs, [] => by simp [pairs, tF d bs []]
  | _ :: bs, _ :: es => by simp [pairs, tF d bs es]

theorem DG (d t : Int) : ∀ (B E : List Int), E.length ≤ B.length → pairs d (B ++ [t]) E = pairs d B E ++ [⟨t, d⟩]
  | [], [], _ => rfl
  | [], _ :: _, h => by simp at h
  | b :: bs, [], _ => by simp only [List.cons_append, pairs, DG d t bs [] (by simp)]
  | b :: bs, e :: es, h => by simp only [List.cons_append, pairs, DG d t bs es (by simpa using h)]

theorem LH (d t : Int) : ∀ (B E : List Int), E.length < B.length → (pairs d B E).set E.length ⟨((pairs d B E).getD E.length default).From, t⟩ = pairs d B (E ++ [t])
  | [], _, h => by simp at h
  | b :: bs, [], _ => by simp [pairs]
  | b :: bs, e :: es, h => by
    have := LH d t bs es (by simpa using h)
    simp only [pairs, List.length_cons, List.set_cons_succ, List.cons_append, List.getD_cons_succ]
    rw [this]

theorem IT (d d' : Int) : ∀ (B E : List Int), B.length ≤ E.length → pairs d B E = pairs d' B E
  | [], _, _ => rfl
  | _ :: _, [], h => by simp at h
  | b :: bs, e :: es, h => by simp only [pairs, IT d d' bs es (by simpa using h)]

theorem yZ (d d' : Int) : ∀ (B E : List Int), pairs d' B E = pairs d B (E ++ List.replicate (B.length - E.length) d')
  | [], E => by simp [pairs]
  | b :: bs, [] => by
    have := yZ d d' bs []
    simp only [List.nil_append, List.length_nil, Nat.sub_zero, List.length_cons, List.replicate_succ, pairs] at this ⊢
    rw [this]
  | b :: bs, e :: es => by
    have := yZ d d' bs es
    simp only [List.cons_append, List.length_cons, Nat.add_sub_add_right, pairs]
    rw [this]

def IF (v : Int) : List aB → Prop
  | [] => True
  | j :: r => 0 ≤ v + j.Net ∧ IF (v + j.Net) r

theorem FT : ∀ {f : List aB} {v : Int}, (∀ x ∈ parts v f, 0 ≤ x) → IF v f
  | [], _, _ => trivial
  | j :: r, v, h => ⟨h _ (by simp [parts]), FT fun x hx => h x (by simp [parts, hx])⟩

theorem WC {f : List aB} (hf : mM f = true) (h : ∀ t, 0 ≤ val f t) : IF 0 f := by
  refine FT fun x hx => ?_
  rw [parts_eq (tN.1 hf).2] at hx
  obtain ⟨j, _, rfl⟩ := List.mem_map.1 hx
  have := h j.At
  omega

theorem ZN {f : List aB} (hf : ∀ j ∈ f, j.Net ≤ 1048576 ∧ -1048576 ≤ j.Net) (hl : f.length ≤ 1099511627776) : pN f = some (nG f) := by
  unfold pN wK
  rw [rN (l := f) (body := fun s : Int × Int => nD f (f.length : Nat) s.1 s.2) (fun v i => (v, i)) (fun v r => v + nG r)
    (fun v r => (∀ j ∈ r, j.Net ≤ 1048576 ∧ -1048576 ≤ j.Net) ∧ 0 ≤ v ∧ v ≤ 1048576 * (1099511627776 - r.length) ∧ r.length ≤ 1099511627776) 0 ?_ ?_ ⟨hf, by omega, by omega, hl⟩]
  · simp [sM]
  · rintro i a r v ha ⟨h1, h2, h3, h4⟩
    have hlt := (List.getElem?_eq_some_iff.1 ha).1
    obtain ⟨d1, d2, d3, d4⟩ := idx ha (by omega)
    have hj := h1 a (List.mem_cons_self ..)
    simp only [List.length_cons] at h3 h4
    have hif : (if (0 : Int) > a.Net then 0 else a.Net) = (if 0 < a.Net then a.Net else 0) := by split <;> split <;> omega
    have hb : 0 ≤ (if 0 < a.Net then a.Net else 0) ∧ (if 0 < a.Net then a.Net else 0) ≤ 1048576 := by split <;> omega
    have hw : IntKind.i64.wrap (v + (if 0 < a.Net then a.Net else 0)) = v + (if 0 < a.Net then a.Net else 0) := iQ (by omega) (by omega)
    left
    refine ⟨v + (if 0 < a.Net then a.Net else 0), ?_, ⟨fun j hj => h1 j (List.mem_cons_of_mem _ hj), by omega, by omega, by omega⟩, by rw [zA]; omega⟩
    show nD _ _ _ _ = _
    simp only [nD, d1, cond_true, bE d2, d3, d4, hif, hw]
  · rintro v _
    show nD _ _ _ _ = _
    simp only [nD, iP, cond_false]
    simp [nG]

theorem RK {f : List aB} (hf : mM f = true) : pN f = some (nG f) := ZN (CC hf) (by have := (tN.1 hf).1; omega)

theorem QH {f : List aB} (hf : ∀ j ∈ f, j.Net ≤ 1048576) : nG f ≤ 1048576 * f.length := by
  induction f with
  | nil => simp [nG]
  | cons j f ih =>
    rw [zA, List.length_cons]
    have := ih fun k hk => hf k (by simp [hk])
    have := hf j (by simp)
    split <;> omega

theorem WB {B E : List Int} {t : Int} (h : E.length < B.length) (hB : B.length ≤ 1000000) : lI t (pairs 0 B E) (E.length : Nat) = some (pairs 0 B (E ++ [t]), ((E.length + 1 : Nat) : Int)) := by
  unfold lI
  rw [bE ⟨by omega, by rw [tF]; omega⟩, Int.toNat_natCast, LH 0 t B E h, iQ (by omega) (by omega)]
  rfl

theorem OG {f : List aB} {i : Int} {j : aB} {E : List Int} (t13 : Int) (hN : j.Net ≤ 4294967296) : ∀ (n : Nat) (k : Nat) (B : List Int), E.length ≤ B.length → j.Net.toNat = k + n → B.length + n ≤ 1000000 →
    lp (fun s : List aQ × Int × aB × Int => kU f t13 i j.Net s.1 s.2.1 s.2.2.1 s.2.2.2) (pairs 0 B E, ((E.length : Nat) : Int), j, (k : Int)) = some (pairs 0 (B ++ List.replicate n j.At) E, ((E.length : Nat) : Int), j)
  | 0, k, B, _, hk, _ => by
    refine cR ?_
    show kU _ _ _ _ _ _ _ _ = _
    have : decide ((k : Int) < j.Net) = false := by simp; omega
    simp only [kU, this, cond_false, List.replicate_zero, List.append_nil]
  | n + 1, k, B, hE, hk, hB => by
    have h1 : decide ((k : Int) < j.Net) = true := by simp; omega
    have hb : (fun s : List aQ × Int × aB × Int => kU f t13 i j.Net s.1 s.2.1 s.2.2.1 s.2.2.2) (pairs 0 B E, ((E.length : Nat) : Int), j, (k : Int)) = some (.inl (pairs 0 (B ++ [j.At]) E, ((E.length : Nat) : Int), j, ((k + 1 : Nat) : Int))) := by
      show kU _ _ _ _ _ _ _ _ = _
      simp only [kU, h1, cond_true]
      rw [bE (by rw [tF]; simp only [List.length_cons, List.length_nil]; omega), DG 0 j.At B E hE, iQ (by omega) (by omega)]
      rfl
    rw [eW hb, OG t13 hN n (k + 1) (B ++ [j.At]) (by simp; omega) (by omega) (by simp; omega), List.append_assoc, List.replicate_succ]
    rfl

theorem VZ {f : List aB} {i : Int} {j : aB} {B : List Int} (t13 : Int) (hB : B.length ≤ 1000000) (hN : -4294967296 ≤ j.Net) : ∀ (n : Nat) (k : Nat) (E : List Int), (-j.Net).toNat = k + n → E.length + n ≤ B.length →
    lp (fun s : List aQ × Int × aB × Int => kX f t13 i (-j.Net) s.1 s.2.1 s.2.2.1 s.2.2.2) (pairs 0 B E, ((E.length : Nat) : Int), j, (k : Int)) = some (pairs 0 B (E ++ List.replicate n j.At), ((E.length + n : Nat) : Int))
  | 0, k, E, hk, _ => by
    refine cR ?_
    show kX _ _ _ _ _ _ _ _ = _
    have : decide ((k : Int) < -j.Net) = false := by simp; omega
    simp only [kX, this, cond_false, List.replicate_zero, List.append_nil, Nat.add_zero]
  | n + 1, k, E, hk, hE => by
    have h1 : decide ((k : Int) < -j.Net) = true := by simp; omega
    have hb : (fun s : List aQ × Int × aB × Int => kX f t13 i (-j.Net) s.1 s.2.1 s.2.2.1 s.2.2.2) (pairs 0 B E, ((E.length : Nat) : Int), j, (k : Int)) = some (.inl (pairs 0 B (E ++ [j.At]), (((E ++ [j.At]).length : Nat) : Int), j, ((k + 1 : Nat) : Int))) := by
      show kX _ _ _ _ _ _ _ _ = _
      simp only [kX, h1, cond_true, WB (show E.length < B.length by omega) hB, Option.bind_some]
      rw [iQ (by omega) (by omega)]
      simp
    rw [eW hb, VZ t13 hB hN n (k + 1) (E ++ [j.At]) (by omega) (by simp; omega), List.append_assoc, List.replicate_succ]
    have : (E ++ [j.At]).length + n = E.length + (n + 1) := by simp; omega
    rw [this]
    rfl

theorem RS {B : List Int} (hB : B.length ≤ 1000000) : ∀ (n : Nat) (E : List Int), E.length + n = B.length →
    lp (fun s : List aQ × Int => kV s.1 s.2) (pairs 0 B E, ((E.length : Nat) : Int)) = some (pairs 1125899906842624 B E)
  | 0, E, h => by
    refine cR ?_
    show kV _ _ = _
    have : decide (((E.length : Nat) : Int) < (((pairs 0 B E).length : Nat) : Int)) = false := by simp [tF]; omega
    simp only [kV, this, cond_false]
    rw [IT 0 1125899906842624 B E (by omega)]
  | n + 1, E, h => by
    have h1 : decide (((E.length : Nat) : Int) < (((pairs 0 B E).length : Nat) : Int)) = true := by simp [tF]; omega
    have hb : (fun s : List aQ × Int => kV s.1 s.2) (pairs 0 B E, ((E.length : Nat) : Int)) = some (.inl (pairs 0 B (E ++ [1125899906842624]), (((E ++ [1125899906842624]).length : Nat) : Int))) := by
      show kV _ _ = _
      simp only [kV, h1, cond_true, WB (show E.length < B.length by omega) hB, Option.bind_some]
      simp
    rw [eW hb, RS hB n (E ++ [1125899906842624]) (by simp; omega)]
    rw [yZ 1125899906842624 1125899906842624 B E, yZ 1125899906842624 1125899906842624 B (E ++ [1125899906842624])]
    have : B.length - E.length = B.length - (E ++ [(1125899906842624 : Int)]).length + 1 := by simp; omega
    rw [this, List.replicate_succ, List.append_assoc]
    rfl

def zT (f : List aB) : List aQ := pairs 1125899906842624 (sF f) (ends f)

theorem IX : ∀ {f : List aB} {v : Int}, IF v f → ((ends f).length : Int) ≤ v + (sF f).length ∨ f = []
  | [], _, _ => .inr rfl
  | j :: r, v, h => by
    left
    rw [KJ, xI, List.length_append, List.length_append, List.length_replicate, List.length_replicate]
    rcases IX h.2 with h1 | h1
    · omega
    · subst h1
      have := h.1
      simp [sF, ends]
      omega

theorem XU {f : List aB} (hf : mM f = true) (hn : ∀ t, 0 ≤ val f t) (hm : nG f ≤ 1000000) : sQ f = some (zT f) := by
  have hok := WC hf hn
  have hlen := (tN.1 hf).1
  have hb0 := zM f
  unfold sQ
  rw [RK hf]
  simp only [Option.bind_some]
  have h0 := sL f
  rw [bE ⟨h0, by omega, by omega⟩]
  unfold uT
  have key := rN (l := f) (body := fun s : List aQ × Int × Int => mJ f (f.length : Nat) s.1 s.2.1 s.2.2) (fun (s : List Int × List Int) i => (pairs 0 s.1 s.2, ((s.2.length : Nat) : Int), i)) (fun s r => (pairs 0 (s.1 ++ sF r) (s.2 ++ ends r), (((s.2 ++ ends r).length : Nat) : Int)))
    (fun s r => s.2.length ≤ s.1.length ∧ IF ((s.1.length : Int) - s.2.length) r ∧ s.1.length + (sF r).length ≤ 1000000 ∧ ∀ j ∈ r, j.Net ≤ 1048576 ∧ -1048576 ≤ j.Net) ([], []) ?_ ?_ ⟨by simp, by simpa using hok, by simp; omega, CC hf⟩
  · simp only [pairs, List.length_nil, Int.natCast_zero, List.nil_append] at key
    rw [key]
    simp only [Option.bind_some, qX, uX]
    have he : (ends f).length ≤ (sF f).length := by
      rcases IX hok with h | h
      · omega
      · subst h; simp [ends]
    rw [RS (by omega) ((sF f).length - (ends f).length) (ends f) (by omega)]
    rfl
  · rintro i j r ⟨B, E⟩ ha ⟨h1, h2, h3, h4⟩
    left
    simp only at h1 h2 h3
    obtain ⟨d1, d2, d3, d4⟩ := idx ha (by omega)
    have hj := h4 j (by simp)
    have hv := h2.1
    rw [xI, List.length_append, List.length_replicate] at h3
    have hw : IntKind.i64.wrap (0 - j.Net) = -j.Net := by rw [iQ (by omega) (by omega)]; omega
    refine ⟨(B ++ List.replicate j.Net.toNat j.At, E ++ List.replicate (-j.Net).toNat j.At), ?_, ⟨by simp; omega, ?_, by simp; omega, fun k hk => h4 k (by simp [hk])⟩, ?_⟩
    · show mJ _ _ _ _ _ = _
      simp only [mJ, d1, cond_true, bE d2, d3, uO]
      have b1 := OG (f := f) (i := (i : Int)) (j := j) (E := E) (f.length : Nat) (by omega) j.Net.toNat 0 B h1 (by omega) (by omega)
      have e1 := VZ (f := f) (i := (i : Int)) (j := j) (B := B ++ List.replicate j.Net.toNat j.At) (f.length : Nat) (by simp; omega) (by omega) (-j.Net).toNat 0 E (by omega) (by simp; omega)
      simp only [Int.natCast_zero] at b1 e1
      rw [b1]
      simp only [Option.bind_some, qW, hw, vA]
      rw [e1]
      simp only [Option.bind_some, qY, d4]
      simp
    · have : (((B ++ List.replicate j.Net.toNat j.At).length : Nat) : Int) - (((E ++ List.replicate (-j.Net).toNat j.At).length : Nat) : Int) = (B.length : Int) - E.length + j.Net := by simp; omega
      simp only
      rw [this]; exact h2.2
    · simp only [xI, KJ, List.append_assoc]
  · rintro ⟨B, E⟩ _
    show mJ _ _ _ _ _ = _
    simp only [mJ, iP, cond_false]
    simp [sF, ends]

end Go.Abs
namespace Go.Abs
open Go
def DF (r : List aJ) (ss : List aQ) : List aG := ss.map fun s => ⟨r, s⟩

def FA (gs : List (List aJ × List aB)) : List aG := gs.flatMap fun g => DF g.1 (zT g.2)

def wX (gs : List (List aJ × List aB)) : Int := (gs.map fun g => nG g.2).sum

theorem UB (g : List aJ × List aB) (gs : List (List aJ × List aB)) : FA (g :: gs) = DF g.1 (zT g.2) ++ FA gs := rfl

theorem CV (g : List aJ × List aB) (gs : List (List aJ × List aB)) : wX (g :: gs) = nG g.2 + wX gs := by simp [wX]

theorem zR : ∀ gs : List (List aJ × List aB), 0 ≤ wX gs
  | [] => by simp [wX]
  | g :: gs => by rw [CV]; have := zR gs; have := sL g.2; omega

theorem SV (f : List aB) : ((zT f).length : Int) = nG f := by rw [zT, tF, zM]

def JU (l : List aC) : List aG × Int := if !BD l then ([], 2) else if !zP l then ([], 20) else if decide (4096 < wX (groups l)) then ([], 7) else (FA (groups l), 0)

theorem OR (l0 c : List aC) : ∀ (gs : List (List aJ × List aB)) (n : Int), (∀ g ∈ gs, mM g.2 = true) → 0 ≤ n → n + 1073741824 * gs.length ≤ 4611686018427387904 →
    itG (fun st t22 t23 => rnd (fun (s : Int) => mQ l0 c s t22 t23) st) gs (.inl n) = some (.inl (n + wX gs))
  | [], n, _, _, _ => by simp [itG, wX]
  | g :: gs, n, hg, hn, hb => by
    have hm := hg g (by simp)
    have h0 := sL g.2
    have h1 := QH (f := g.2) fun j hj => (CC hm j hj).1
    have h2 := (tN.1 hm).1
    simp only [List.length_cons] at hb
    have hw : IntKind.i64.wrap (n + nG g.2) = n + nG g.2 := iQ (by omega) (by omega)
    have hl : mQ l0 c n g.1 g.2 = some (.inl (n + nG g.2)) := by
      unfold mQ
      rw [RK hm]
      simp only [Option.bind_some, hw]
    simp only [itG, rnd, hl, Option.bind_some, Sum.isLeft_inl, if_true]
    have := OR l0 c gs (n + nG g.2) (fun q hq => hg q (by simp [hq])) (by omega) (by omega)
    simp only [rnd] at this
    rw [this, CV, Int.add_assoc]

theorem aAy {r : List aJ} (hr : r.length ≤ 4398046510976) (ss : List aQ) (out : List aG) (h : out.length + ss.length ≤ 1000000) : pX out r ss ((ss.length : Nat) : Int) 0 = some (.inl (out ++ DF r ss)) := by
  unfold pX
  rw [rN (l := ss) (body := fun s : List aG × Int => lH r ss (ss.length : Nat) s.1 s.2) (fun o i => (o, i)) (fun o t => o ++ DF r t) (fun o t => o.length + t.length ≤ 1000000) out ?_ ?_ h]
  · rfl
  · intro i a t o ha hi
    left
    obtain ⟨d1, d2, d3, d4⟩ := idx ha (by omega)
    simp only [List.length_cons] at hi
    refine ⟨o ++ [⟨r, a⟩], ?_, by simp; omega, by simp [DF]⟩
    show lH _ _ _ _ _ = _
    simp only [lH, d1, cond_true, bE d2, d3, d4, wC hr, Option.bind_some]
    exact bE (by simp only [List.length_cons, List.length_nil]; omega)
  · intro o _
    show lH _ _ _ _ _ = _
    simp only [lH, iP, cond_false]
    simp [DF]

theorem KV (c : List aC) : ∀ (gs : List (List aJ × List aB)) (out : List aG), (∀ g ∈ gs, mM g.2 = true ∧ (∀ t, 0 ≤ val g.2 t) ∧ g.1.length ≤ 4398046510976) → out.length + wX gs ≤ 1000000 →
    itG (fun st t34 t35 => rnd (fun (s : List aG) => mR c s t34 t35) st) gs (.inl out) = some (.inl (out ++ FA gs))
  | [], out, _, _ => by simp [itG, FA]
  | g :: gs, out, hg, hb => by
    obtain ⟨hm, hn, hr⟩ := hg g (by simp)
    have h0 := sL g.2
    have h1 := zR gs
    rw [CV] at hb
    have hs := SV g.2
    have hl : mR c out g.1 g.2 = some (.inl (out ++ DF g.1 (zT g.2))) := by
      unfold mR
      rw [XU hm hn (by omega)]
      simp only [Option.bind_some]
      rw [aAy hr _ _ (by omega)]
    simp only [itG, rnd, hl, Option.bind_some, Sum.isLeft_inl, if_true]
    have := KV c gs (out ++ DF g.1 (zT g.2)) (fun q hq => hg q (by simp [hq])) (by simp only [List.length_append, DF, List.length_map]; omega)
    simp only [rnd] at this
    rw [this, UB, List.append_assoc]

theorem yN : ∀ (l : List aC) (r : List aJ) (f : List aB), (gA r f l).length ≤ l.length + 1
  | [], _, _ => by simp [gA]
  | e :: l, r, f => by
    rw [SB]
    split
    · have := yN l r (f ++ [jE e]); simp only [List.length_cons]; omega
    · have := yN l e.Row [jE e]; simp only [List.length_cons]; omega

theorem TV (l : List aC) : (groups l).length ≤ l.length := by
  cases l with
  | nil => simp [groups]
  | cons e l => exact yN l e.Row [jE e]

theorem AB {l : List aC} (ht : zP l = true) {g : List aJ × List aB} (hg : g ∈ groups l) : mM g.2 = true ∧ ∀ t, 0 ≤ val g.2 t := by
  obtain ⟨hm, hv⟩ := UC.1 ht
  obtain ⟨_, h2, h3⟩ := JT hm
  have : g.2 = jI l g.1 := by rw [← wN h3, DB h3 hg]
  exact ⟨(h2 g hg).2, by rw [this]; exact hv g.1⟩

theorem VC {l : List aC} (hl : okL l) : rD l = some (JU l) := by
  unfold rD JU
  rw [RA hl]
  cases hm : BD l
  · simp
  · simp only [Option.bind_some, Bool.not_true, cond_false, VV hl, Bool.false_eq_true, if_false]
    cases ht : zP l
    · simp
    · have hn := (JT hm).1
      have hgl := TV l
      have h0 := zR (groups l)
      simp only [Bool.not_true, cond_false, Bool.false_eq_true, if_false, oQ, Option.bind_some, tJ]
      have hc := OR l l (groups l) 0 (fun g hg => (AB ht hg).1) (by omega) (by omega)
      rw [HQ hl (s' := .inl (0 + wX (groups l))) (by rw [hm]; simpa using hc)]
      simp only [Option.bind_some, Sum.elim_inl, Int.zero_add]
      by_cases h7 : 4096 < wX (groups l)
      · simp [h7]
      · simp only [h7, decide_false, cond_false, Bool.false_eq_true, if_false]
        rw [bE ⟨h0, by omega, by omega⟩]
        unfold pZ
        have hp := KV l (groups l) [] (fun g hg => ⟨(AB ht hg).1, (AB ht hg).2, KU hl hg⟩) (by simp; omega)
        rw [HQ hl (s' := .inl ([] ++ FA (groups l))) (by rw [hm]; simpa using hp)]
        rfl

def YG (s : aQ) : Bool := SW s || ((decide (s.From = -1) && decide (0 ≤ s.To)) && decide (s.To ≤ 1125899906842624))

def GQ (p : aG) : Bool := pM p.Row && YG p.Span

theorem RL (p : aG) : qO p = some (GQ p) := by
  unfold qO GQ
  rw [BY]
  cases h : pM p.Row
  · simp [cL]
  · simp only [cL, cond_true, Option.bind_some, xN, SG, YG, Bool.true_and]

def okP (l : List aG) : Prop := l.length ≤ 3518437208783 ∧ ∀ e ∈ l, e.Row.length ≤ 4398046510976

theorem PC {l : List aG} {f : aG → Option Bool} {g : aG → Bool} (hl : l.length ≤ 1099511627776) (hf : ∀ x ∈ l, f x = some (g x)) : cW l f = some (l.any g) := by
  unfold cW eV eG
  obtain ⟨x, e, hx⟩ := zO hl hf l 0 rfl (Nat.zero_le _)
  have e' : lp (fun s => eH f l (l.length : Nat) s) 0 = some x := e
  rw [e']
  rcases hx with ⟨rfl, h⟩ | ⟨i, rfl, _, _, h, _⟩
  · simp [dA, h]
  · simp [h]

def peL (l : List aG) : List aC := l.flatMap fun p => [⟨p.Row, p.Span.From, 1⟩, ⟨p.Row, p.Span.To, -1⟩]

theorem OW (p : aG) (l : List aG) : peL (p :: l) = [⟨p.Row, p.Span.From, 1⟩, ⟨p.Row, p.Span.To, -1⟩] ++ peL l := rfl

theorem JR : ∀ l : List aG, (peL l).length = 2 * l.length
  | [] => rfl
  | p :: l => by rw [OW, List.length_append, JR l]; simp; omega

theorem QZ {l : List aG} (hl : okP l) (h : l.length ≤ 1000000) : okL (peL l) :=
  ⟨by rw [JR]; omega, fun e he => by
    obtain ⟨p, hp, h1⟩ := List.mem_flatMap.1 he
    have := hl.2 p hp
    simp only [List.mem_cons, List.not_mem_nil, or_false] at h1
    rcases h1 with rfl | rfl <;> exact this⟩

def yC (l : List aG) : List aC × Int := if l.any (fun p => !GQ p) then ([], 2) else if decide (4096 < l.length) then ([], 7) else vE (peL l)

theorem VG {l : List aG} (hl : okP l) (hn : l.length ≤ 1099511627776) : sE l = some (yC l) := by
  unfold sE yC
  rw [PC (g := fun p => !GQ p) hn (fun p _ => by simp [qB, RL])]
  simp only [Option.bind_some]
  cases h1 : l.any fun p => !GQ p
  · simp only [cond_false, Bool.false_eq_true, if_false]
    by_cases h2 : 4096 < l.length
    · have h2' : (4096 : Int) < ((l.length : Nat) : Int) := by omega
      simp [h2, h2']
    · have h2' : ¬ (4096 : Int) < ((l.length : Nat) : Int) := by omega
      simp only [h2, h2', decide_false, cond_false, Bool.false_eq_true, if_false]
      have hw : IntKind.i64.wrap ((2 : Int) * ((l.length : Nat) : Int)) = 2 * ((l.length : Nat) : Int) := iQ (by omega) (by omega)
      rw [hw, bE ⟨by omega, by omega, by omega⟩]
      unfold uU
      rw [rN (l := l) (body := fun s : List aC × Int => mE l (l.length : Nat) s.1 s.2) (fun o i => (o, i)) (fun o t => o ++ peL t) (fun o t => o.length + 2 * t.length ≤ 1000000) [] ?_ ?_ (by simp; omega)]
      · simp only [Option.bind_some, List.nil_append, rJ]
        rw [WX (QZ hl (by omega)) (by rw [JR]; omega)]
        rfl
      · intro i a t o ha hi
        left
        obtain ⟨d1, d2, d3, d4⟩ := idx ha (by omega)
        simp only [List.length_cons] at hi
        refine ⟨o ++ [⟨a.Row, a.Span.From, 1⟩, ⟨a.Row, a.Span.To, -1⟩], ?_, by simp; omega, by rw [OW]; simp⟩
        show mE _ _ _ _ = _
        simp only [mE, d1, cond_true, bE d2, d3, d4]
        exact bE (by simp only [List.length_cons, List.length_nil]; omega)
      · intro o _
        show mE _ _ _ _ = _
        simp only [mE, iP, cond_false]
        simp [peL]
  · simp

def MK (l : List aG) : List aG × Int := if (yC l).2 ≠ 0 then ([], (yC l).2) else JU (yC l).1

theorem SU {l : List aG} (hl : okP l) : okL (yC l).1 := by
  unfold yC
  split
  · exact KG
  · split
    · exact KG
    · rename_i h
      exact UI (QZ hl (by simp at h; omega))

theorem NS {l : List aG} (hl : okP l) (hn : l.length ≤ 1099511627776) : rO l = some (MK l) := by
  unfold rO MK
  rw [VG hl hn]
  simp only [Option.bind_some]
  by_cases h : (yC l).2 = 0
  · simp only [h, decide_true, Bool.not_true, cond_false, VC (SU hl), Option.bind_some, ne_eq, not_true_eq_false, if_false]
  · simp [h]

end Go.Abs
namespace Go.Abs
open Go
theorem qA (x y : aG) : x = y ↔ (x.Span.From = y.Span.From ∧ x.Span.To = y.Span.To) ∧ x.Row = y.Row := by
  obtain ⟨r, a, b⟩ := x
  obtain ⟨q, c, d⟩ := y
  simp only [aG.mk.injEq, aQ.mk.injEq]
  constructor
  · rintro ⟨h1, h2, h3⟩; exact ⟨⟨h2, h3⟩, h1⟩
  · rintro ⟨⟨h2, h3⟩, h1⟩; exact ⟨h1, h2, h3⟩

theorem NH (x y : aG) (hl : x.Row.length ≤ 17592186044416) : nJ x y = some (decide (x = y)) := by
  unfold nJ
  rw [HT _ _ hl]
  by_cases h : x.Span.From = y.Span.From ∧ x.Span.To = y.Span.To
  · by_cases h2 : x.Row = y.Row
    · simp [h.1, h.2, h2, cL, qA]
    · simp [h.1, h.2, h2, cL, qA]
  · have : ((decide (x.Span.From = y.Span.From)) && ((decide (x.Span.To = y.Span.To)) && true)) = false := by
      simp only [Bool.and_true, Bool.and_eq_false_iff, decide_eq_false_iff_not]
      by_cases h1 : x.Span.From = y.Span.From
      · exact .inr fun h2 => h ⟨h1, h2⟩
      · exact .inl h1
    have hn : ¬ x = y := fun e => h ((qA x y).1 e).1
    rw [this]; simp [cL, hn]

theorem GI {a b : List aG} (hl : okP a) : pQ a b = some (decide (a = b)) := by
  unfold pQ cJ
  have hlen := hl.1
  by_cases he : a.length = b.length
  · rw [IS he, cond_false]
    unfold cI
    have := HV (f := a) (g := b) (body := fun s => bX (fun y0 y1 => nJ y0 y1) b a (a.length : Nat) s) he ?_ ?_ a.length 0 rfl (Nat.zero_le _)
    · simp only [Int.natCast_zero, List.drop_zero] at this
      rw [this]
      by_cases h : a = b <;> simp [h, cD]
    · intro i x y hx hy
      obtain ⟨d1, d2, d3, d4⟩ := idx hx (by omega)
      obtain ⟨_, e2, e3, _⟩ := idx hy (by omega)
      have hr := hl.2 x (List.mem_of_getElem? hx)
      simp only [bX, d1, cond_true, bE d2, bE e2, d3, e3, d4, NH x y (by omega), Option.bind_some]
      by_cases h : x = y <;> simp [h]
    · simp only [bX, iP, cond_false]
  · rw [HY he, cond_true]
    have : a ≠ b := fun h => he (by rw [h])
    simp [this]

theorem AX {a b : List aG} (hl : okP a) : nF a b = some (decide (a = b)) := by
  unfold nF
  have hlen := hl.1
  by_cases he : a.length = b.length
  · rw [IS he, cond_false]
    unfold uW
    have := HV (f := a) (g := b) (body := fun s => oW a b s) he ?_ ?_ a.length 0 rfl (Nat.zero_le _)
    · simp only [Int.natCast_zero, List.drop_zero] at this
      rw [this]
      by_cases h : a = b <;> simp [h, rK]
    · intro i x y hx hy
      obtain ⟨d1, d2, d3, d4⟩ := idx hx (by omega)
      obtain ⟨_, e2, e3, _⟩ := idx hy (by omega)
      have hr := hl.2 x (List.mem_of_getElem? hx)
      simp only [oW, d1, cond_true, bE d2, bE e2, d3, e3, d4]
      rw [bE fun _ => d2, bE fun _ => e2, LS _ _ (by omega)]
      by_cases h : x.Span.From = y.Span.From ∧ x.Span.To = y.Span.To
      · by_cases h2 : x.Row = y.Row
        · simp [h.1, h.2, h2, cL, qA]
        · simp [h.1, h.2, h2, cL, qA]
      · have : ((decide (x.Span.From = y.Span.From)) && ((decide (x.Span.To = y.Span.To)) && true)) = false := by
          simp only [Bool.and_true, Bool.and_eq_false_iff, decide_eq_false_iff_not]
          by_cases h1 : x.Span.From = y.Span.From
          · exact .inr fun h2 => h ⟨h1, h2⟩
          · exact .inl h1
        have hn : ¬ x = y := fun e => h ((qA x y).1 e).1
        rw [this]; simp [cL, hn]
    · simp only [oW, iP, cond_false]
  · rw [HY he, cond_true]
    have : a ≠ b := fun h => he (by rw [h])
    simp [this]

def AO (t : Int) (p : aG) : List aG := if p.Span.From < t then [⟨p.Row, ⟨p.Span.From, if t < p.Span.To then t else p.Span.To⟩⟩] else []

def AW (t : Int) (l : List aG) : List aG := l.flatMap (AO t)

def AP (t : Int) (p : aG) : List aG := if t < p.Span.To then [⟨p.Row, ⟨if t > p.Span.From then t else p.Span.From, p.Span.To⟩⟩] else []

def BA (t : Int) (l : List aG) : List aG := l.flatMap (AP t)

theorem yG (t : Int) (p : aG) (l : List aG) : AW t (p :: l) = AO t p ++ AW t l := rfl

theorem yI (t : Int) (p : aG) (l : List aG) : BA t (p :: l) = AP t p ++ BA t l := rfl

theorem NJ (t : Int) : ∀ l : List aG, (AW t l).length ≤ l.length
  | [] => Nat.le_refl _
  | p :: l => by rw [yG, List.length_append, List.length_cons]; have := NJ t l; unfold AO; split <;> simp <;> omega

theorem PD (t : Int) : ∀ l : List aG, (BA t l).length ≤ l.length
  | [] => Nat.le_refl _
  | p :: l => by rw [yI, List.length_append, List.length_cons]; have := PD t l; unfold AP; split <;> simp <;> omega

theorem XB {t : Int} {l : List aG} (h : okP l) : okP (AW t l) :=
  ⟨Nat.le_trans (NJ t l) h.1, fun e he => by
    obtain ⟨p, hp, h1⟩ := List.mem_flatMap.1 he
    unfold AO at h1
    split at h1
    · rw [List.mem_singleton.1 h1]; exact h.2 p hp
    · simp at h1⟩

theorem XM {t : Int} {l : List aG} (h : okP l) : okP (BA t l) :=
  ⟨Nat.le_trans (PD t l) h.1, fun e he => by
    obtain ⟨p, hp, h1⟩ := List.mem_flatMap.1 he
    unfold AP at h1
    split at h1
    · rw [List.mem_singleton.1 h1]; exact h.2 p hp
    · simp at h1⟩

theorem NN (a b : Int) : oD a b = some (decide (a < b)) := by
  simp [oD, iW, cL]

theorem OK {l : List aG} (hl : okP l) (t : Int) : sZ l t = some (AW t l) := by
  have hlen := hl.1
  unfold sZ uV
  rw [rN (l := l) (body := fun s : List aG × Int => mC t l ((List.length l : Nat) : Int) s.1 s.2) (fun o i => (o, i)) (fun o r => o ++ AW t r) (fun o r => o.length + r.length ≤ 3518437208783 ∧ ∀ p ∈ r, p.Row.length ≤ 4398046510976) [] ?_ ?_ ⟨by simpa using hlen, hl.2⟩]
  · simp [rG]
  · intro i a r o ha hi
    left
    obtain ⟨d1, d2, d3, d4⟩ := idx ha (by omega)
    have hr := hi.2 a (by simp)
    have h1 := hi.1
    simp only [List.length_cons] at h1
    show ∃ s', mC _ _ _ _ _ = _ ∧ _
    simp only [mC, d1, cond_true, bE d2, d3, NN, Option.bind_some]
    by_cases h : a.Span.From < t
    · refine ⟨o ++ [⟨a.Row, ⟨a.Span.From, if t < a.Span.To then t else a.Span.To⟩⟩], ?_, ⟨by simp; omega, fun p hp => hi.2 p (by simp [hp])⟩, by rw [yG, AO, if_pos h, List.append_assoc]⟩
      simp only [h, decide_true, cond_true, wC hr, Option.bind_some]
      rw [bE (by simp only [List.length_cons, List.length_nil]; omega)]
      simp only [oY, d4]
    · refine ⟨o, ?_, ⟨by omega, fun p hp => hi.2 p (by simp [hp])⟩, by rw [yG, AO, if_neg h, List.nil_append]⟩
      simp only [h, decide_false, cond_false, oY, d4]
  · intro o _
    show mC _ _ _ _ _ = _
    simp only [mC, iP, cond_false]
    simp [AW]

theorem QA {l : List aG} (hl : okP l) (t : Int) : uF l t = some (BA t l) := by
  have hlen := hl.1
  unfold uF wW
  rw [rN (l := l) (body := fun s : List aG × Int => nE t l ((List.length l : Nat) : Int) s.1 s.2) (fun o i => (o, i)) (fun o r => o ++ BA t r) (fun o r => o.length + r.length ≤ 3518437208783 ∧ ∀ p ∈ r, p.Row.length ≤ 4398046510976) [] ?_ ?_ ⟨by simpa using hlen, hl.2⟩]
  · simp [sC]
  · intro i a r o ha hi
    left
    obtain ⟨d1, d2, d3, d4⟩ := idx ha (by omega)
    have hr := hi.2 a (by simp)
    have h1 := hi.1
    simp only [List.length_cons] at h1
    show ∃ s', nE _ _ _ _ _ = _ ∧ _
    simp only [nE, d1, cond_true, bE d2, d3, NN, Option.bind_some]
    by_cases h : t < a.Span.To
    · refine ⟨o ++ [⟨a.Row, ⟨if t > a.Span.From then t else a.Span.From, a.Span.To⟩⟩], ?_, ⟨by simp; omega, fun p hp => hi.2 p (by simp [hp])⟩, by rw [yI, AP, if_pos h, List.append_assoc]⟩
      simp only [h, decide_true, cond_true, wC hr, Option.bind_some]
      rw [bE (by simp only [List.length_cons, List.length_nil]; omega)]
      simp only [pW, d4]
    · refine ⟨o, ?_, ⟨by omega, fun p hp => hi.2 p (by simp [hp])⟩, by rw [yI, AP, if_neg h, List.nil_append]⟩
      simp only [h, decide_false, cond_false, pW, d4]
  · intro o _
    show nE _ _ _ _ _ = _
    simp only [nE, iP, cond_false]
    simp [BA]

theorem PN {l : List aG} (hl : okP l) (t : Int) : qU l t = some (AW t l) := by
  have hlen := hl.1
  unfold qU tL
  rw [rN (l := l) (body := fun s : List aG × Int => lF l t s.1 s.2) (fun o i => (o, i)) (fun o r => o ++ AW t r) (fun o r => o.length + r.length ≤ 3518437208783 ∧ ∀ p ∈ r, p.Row.length ≤ 4398046510976) [] ?_ ?_ ⟨by simpa using hlen, hl.2⟩]
  · simp [qD]
  · intro i a r o ha hi
    left
    obtain ⟨d1, d2, d3, d4⟩ := idx ha (by omega)
    have hr := hi.2 a (by simp)
    have h1 := hi.1
    simp only [List.length_cons] at h1
    show ∃ s', lF _ _ _ _ = _ ∧ _
    simp only [lF, d1, cond_true, bE d2, d3]
    have key : ∀ s : aQ, nZ l t o i s = if a.Span.From < t then some (.inl (o ++ [⟨a.Row, s⟩], ((i + 1 : Nat) : Int))) else some (.inl (o, ((i + 1 : Nat) : Int))) := by
      intro s
      simp only [nZ, bE d2, d3]
      by_cases h : a.Span.From < t
      · simp only [h, decide_true, cond_true, if_true]
        rw [bE (by omega), bE (by simp only [List.length_cons, List.length_nil]; omega)]
        simp only [oE, d4]
      · simp only [h, decide_false, cond_false, if_false, oE, d4]
    by_cases h : a.Span.From < t
    · refine ⟨o ++ [⟨a.Row, ⟨a.Span.From, if t < a.Span.To then t else a.Span.To⟩⟩], ?_, ⟨by simp; omega, fun p hp => hi.2 p (by simp [hp])⟩, by rw [yG, AO, if_pos h, List.append_assoc]⟩
      by_cases h2 : t < a.Span.To
      · simp only [h2, decide_true, cond_true, key, if_pos h, if_true]
      · simp only [h2, decide_false, cond_false, key, if_pos h, if_false]
    · refine ⟨o, ?_, ⟨by omega, fun p hp => hi.2 p (by simp [hp])⟩, by rw [yG, AO, if_neg h, List.nil_append]⟩
      by_cases h2 : t < a.Span.To
      · simp only [h2, decide_true, cond_true, key, if_neg h]
      · simp only [h2, decide_false, cond_false, key, if_neg h]
  · intro o _
    show lF _ _ _ _ = _
    simp only [lF, iP, cond_false]
    simp [AW]

theorem QL {l : List aG} (hl : okP l) (t : Int) : sV l t = some (BA t l) := by
  have hlen := hl.1
  unfold sV vG
  rw [rN (l := l) (body := fun s : List aG × Int => mI l t s.1 s.2) (fun o i => (o, i)) (fun o r => o ++ BA t r) (fun o r => o.length + r.length ≤ 3518437208783 ∧ ∀ p ∈ r, p.Row.length ≤ 4398046510976) [] ?_ ?_ ⟨by simpa using hlen, hl.2⟩]
  · simp [rH]
  · intro i a r o ha hi
    left
    obtain ⟨d1, d2, d3, d4⟩ := idx ha (by omega)
    have hr := hi.2 a (by simp)
    have h1 := hi.1
    simp only [List.length_cons] at h1
    show ∃ s', mI _ _ _ _ = _ ∧ _
    simp only [mI, d1, cond_true, bE d2, d3]
    have key : ∀ s : aQ, oS l t o i s = if t < a.Span.To then some (.inl (o ++ [⟨a.Row, s⟩], ((i + 1 : Nat) : Int))) else some (.inl (o, ((i + 1 : Nat) : Int))) := by
      intro s
      simp only [oS, bE d2, d3]
      by_cases h : t < a.Span.To
      · simp only [h, decide_true, cond_true, if_true]
        rw [bE (by omega), bE (by simp only [List.length_cons, List.length_nil]; omega)]
        simp only [oZ, d4]
      · simp only [h, decide_false, cond_false, if_false, oZ, d4]
    by_cases h : t < a.Span.To
    · refine ⟨o ++ [⟨a.Row, ⟨if t > a.Span.From then t else a.Span.From, a.Span.To⟩⟩], ?_, ⟨by simp; omega, fun p hp => hi.2 p (by simp [hp])⟩, by rw [yI, AP, if_pos h, List.append_assoc]⟩
      by_cases h2 : a.Span.From < t
      · simp only [h2, decide_true, cond_true, key, if_pos h, gt_iff_lt, if_true]
      · simp only [h2, decide_false, cond_false, key, if_pos h, gt_iff_lt, if_false]
    · refine ⟨o, ?_, ⟨by omega, fun p hp => hi.2 p (by simp [hp])⟩, by rw [yI, AP, if_neg h, List.nil_append]⟩
      by_cases h2 : a.Span.From < t
      · simp only [h2, decide_true, cond_true, key, if_neg h]
      · simp only [h2, decide_false, cond_false, key, if_neg h]
  · intro o _
    show mI _ _ _ _ = _
    simp only [mI, iP, cond_false]
    simp [BA]

def lM (a b : Int) : aG := ⟨[⟨1, 1, ByteArray.empty⟩], ⟨a, b⟩⟩

theorem XH (a b : Int) : jD a b = some (lM a b) := rfl

theorem JA {l : List aG} (h : l.length ≤ 4096) (hr : ∀ e ∈ l, e.Row.length ≤ 8) : okP l := ⟨by omega, fun e he => by have := hr e he; omega⟩

theorem ZV : MK [lM 5 9, lM 2 5] = ([lM 2 9], 0) := by decide +kernel

theorem YW : MK [lM 1 10, lM 3 5] = ([lM 1 5, lM 3 10], 0) := by decide +kernel

theorem UL : sH = some true := by
  unfold sH
  simp only [XH, Option.bind_some]
  rw [NS (l := [lM 5 9, lM 2 5]) (JA (by simp) (by simp [lM])) (by simp), ZV]
  simp only [Option.bind_some]
  rw [NS (l := [lM 1 10, lM 3 5]) (JA (by simp) (by simp [lM])) (by simp), YW]
  simp only [Option.bind_some]
  have g1 : pQ [lM 2 9] [lM 2 9] = some (decide ([lM 2 9] = [lM 2 9])) := GI (JA (by simp) (by simp [lM]))
  have g2 : nF [lM 1 5, lM 3 10] [lM 1 5, lM 3 10] = some (decide ([lM 1 5, lM 3 10] = [lM 1 5, lM 3 10])) := AX (JA (by simp) (by simp [lM]))
  have h1 : GQ (lM (-1) 0) = true := by decide +kernel
  have h2 : GQ (lM 3 3) = false := by decide +kernel
  simp [cL, g1, g2, RL, h1, h2]

end Go.Abs
namespace Go.Abs
open Go
theorem aAw {l : List aG} (m : ∀ a ∈ l, sD a) (y : List.length l * 40 ≤ 140737488351232) : okP l :=
  ⟨by omega, fun e he => by have := (m e he).1.2; omega⟩

end Go.Abs
namespace Go.Abs
open Go
theorem LM (l0 : (List aG)) (m0 : ∀ a ∈ l0, sD a) (y0 : List.length l0 * 40 ≤ 140737488351232) (a1 : Int) (w1 : AU a1) : qM l0 a1 = some true := by
  have k0 := aAw m0 y0
  unfold qM
  simp only [UL, Option.bind_some, cL, cond_true, OK k0, PN k0, AX (XB k0), decide_true, Bool.and_self, QA k0, QL k0, AX (XM k0), GI k0]

end Go.Abs
