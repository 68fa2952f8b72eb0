/- What the law HopSettles stands on: the framework, the given functions as plain functions, their walks, and the plain laws; part 5. -/
import Derived.Test.YteecjdpicjpnfaaHopSettlesZ4
set_option linter.unusedSimpArgs false
set_option linter.unusedVariables false
namespace Go.Abs
open Go
theorem TM {f : List aB} {i : Nat} {a : aB} {t v : Int} (ha : f[i]? = some a) (hl : f.length < 4611686018427387904) :
    mU t f (f.length : Nat) v i = some (if t < a.At then .inr v else .inl (IntKind.i64.wrap (v + a.Net), ((i + 1 : Nat) : Int))) := by
  obtain ⟨d1, d2, d3, d4⟩ := idx ha hl
  simp only [mU, d1, cond_true, aP d2, d3, d4]
  by_cases h : t < a.At <;> simp [h]

theorem aBB {t : Int} (f : List aB) : ∀ (last v : Int), nH last f → v ≤ 1048576 * (2048 - f.length) → -(1048576 * (2048 - f.length)) ≤ v → f.length ≤ 1024 →
    nB (fun v (j : aB) => some (if t < j.At then .inr v else .inl (IntKind.i64.wrap (v + j.Net)))) (fun v => (v : Int)) v f = some (v + val f t) := by
  induction f with
  | nil => intro last v _ _ _ _; simp [nB, val]
  | cons j r ih =>
    intro last v h h1 h2 hl
    simp only [List.length_cons] at h1 h2 hl
    by_cases hj : t < j.At
    · rw [CR (x := v) (by simp [hj])]
      rw [qB (fun k hk => by
        rcases List.mem_cons.1 hk with rfl | hk
        · exact hj
        · have := (h.2.above k hk).1; omega)]
      simp
    · have hj1 := h.1
      have hw : IntKind.i64.wrap (v + j.Net) = v + j.Net := eA (by omega) (by omega)
      rw [CI (s' := v + j.Net) (by simp [hj, hw])]
      rw [ih j.At (v + j.Net) h.2 (by omega) (by omega) (by omega), gJ, if_pos (by omega)]
      congr 1
      omega

theorem aCD (f : List aB) (t : Int) : xL f t = some (if eW f then val f t else 0) := by
  unfold xL
  rw [BO]
  simp only [Option.bind_some]
  cases h : eW f
  · simp
  · obtain ⟨hl, hr⟩ := lP.1 h
    simp only [Bool.not_true, cond_false, if_true]
    unfold xZ
    have key := RG (l := f) (body := fun s : Int × Int => mU t f (f.length : Nat) s.1 s.2) (fun v i => (v, i)) _ _
      (fun i a s ha => by
        constructor
        · intro s' hs
          show mU t f (f.length : Nat) s i = _
          rw [TM ha (by omega)]
          split at hs <;> simp_all
        · intro x hs
          show mU t f (f.length : Nat) s i = _
          rw [TM ha (by omega)]
          split at hs <;> simp_all)
      (fun s => by show mU t f (f.length : Nat) s (f.length : Nat) = _; simp only [mU, lC, cond_false]) (aBB (t := t) f (-2) 0 hr (by omega) (by omega) hl)
    rw [key]
    simp [tN]

theorem aBD (f : List aB) : rS f = some (if eW f then (f, 0) else ([], 7)) := by
  unfold rS
  rw [BO]
  cases h : eW f <;> simp

end Go.Abs
namespace Go.Abs
open Go
section both
variable {op : Int → Int → Option Int} {f g r : List aB} {out : List aB} {a b was t : Int} {j : aB}
end both
def emit (p v was : Int) : List aB := if v = was then [] else [⟨p, v - was⟩]

def aA0 (was : Int) : List (Int × Int) → List aB
  | [] => []
  | x :: r => emit x.1 x.2 was ++ aA0 x.2 r

def merge (f g : List aB) (a b : Int) : List (Int × Int × Int) :=
  match f, g with
  | [], [] => []
  | j :: f, [] => (j.At, a + j.Net, b) :: merge f [] (a + j.Net) b
  | [], k :: g => (k.At, a, b + k.Net) :: merge [] g a (b + k.Net)
  | j :: f, k :: g =>
    if j.At < k.At then (j.At, a + j.Net, b) :: merge f (k :: g) (a + j.Net) b
    else if k.At < j.At then (k.At, a, b + k.Net) :: merge (j :: f) g a (b + k.Net)
    else (j.At, a + j.Net, b + k.Net) :: merge f g (a + j.Net) (b + k.Net)

termination_by f.length + g.length
end Go.Abs
namespace Go.Abs
open Go
def comb (OP : Int → Int → Int) (f g : List aB) : List aB := aA0 0 ((merge f g 0 0).map fun x => (x.1, OP x.2.1 x.2.2))

def told (f : List aB) : List aB × Int := if eW f then (f, 0) else ([], 7)

theorem aAN (f : List aB) : rS f = some (told f) := aBD f

def two (OP : Int → Int → Int) (f g : List aB) : List aB × Int := if eW f && eW g then told (comb OP f g) else ([], 2)

end Go.Abs
namespace Go.Abs
open Go
theorem nH.zC {l t : Int} {f : List aB} (h : nH l f) (ht : t ≤ l) : val f t = 0 := qB fun j hj => by have := (h.above j hj).1; omega

theorem NG {f : List aB} (hf : eW f = true) (t : Int) : val f t ≤ 1073741824 ∧ -1073741824 ≤ val f t := by
  obtain ⟨h1, h2⟩ := lP.1 hf
  have := DS t (b := 1048576) (by omega) (fun j hj => by have := h2.above j hj; omega) (f := f)
  omega

end Go.Abs
namespace Go.Abs
open Go
def sS (f : List aB) : Int := (f.map aB.Net).sum

theorem LP (j : aB) (f : List aB) : sS (j :: f) = j.Net + sS f := by simp [sS]

def jL (t : Int) : List aB → List aB
  | [] => []
  | j :: r => if t ≤ j.At then [] else j :: jL t r

def aft (t : Int) : List aB → List aB
  | [] => []
  | j :: r => if t ≤ j.At then j :: r else aft t r

theorem HK (t : Int) : ∀ f : List aB, jL t f ++ aft t f = f
  | [] => rfl
  | j :: r => by
    unfold jL aft
    split
    · rfl
    · simp [HK t r]

theorem KN {t : Int} : ∀ {f : List aB}, ∀ j ∈ jL t f, j.At < t
  | [], j, h => by simp [jL] at h
  | k :: r, j, h => by
    unfold jL at h
    split at h
    · simp at h
    · rcases List.mem_cons.1 h with rfl | h
      · omega
      · exact KN j h

theorem QS {t l : Int} : ∀ {f : List aB}, nH l f → ∀ j ∈ aft t f, t ≤ j.At
  | [], _, j, h => by simp [aft] at h
  | k :: r, hr, j, h => by
    unfold aft at h
    split at h
    · rcases List.mem_cons.1 h with rfl | h
      · assumption
      · have := (hr.2.above j h).1; omega
    · exact QS hr.2 j h

theorem aBr {f : List aB} {t : Int} (h : ∀ j ∈ f, j.At ≤ t) : val f t = sS f := by
  induction f with
  | nil => rfl
  | cons j r ih => rw [gJ, LP, if_pos (h j (List.mem_cons_self ..)), ih fun k hk => h k (List.mem_cons_of_mem _ hk)]

theorem QM (t : Int) : ∀ f : List aB, (jL t f).length ≤ f.length
  | [] => by simp [jL]
  | j :: r => by
    unfold jL
    split
    · simp
    · simpa using QM t r

theorem OF {l t p : Int} {f : List aB} (hf : nH l f) (hp : p < t) : val f p = val (jL t f) p := by
  conv => lhs; rw [← HK t f]
  rw [VQ, qB (f := aft t f) (fun j hj => by have := QS hf j hj; omega)]
  omega

theorem WU {l t : Int} {f : List aB} (hf : nH l f) : sS (jL t f) = val f (t - 1) := by
  rw [OF hf (p := t - 1) (t := t) (by omega), aBr (fun j hj => by have := KN j hj; omega)]

theorem VL {t : Int} (f : List aB) : ∀ (l v : Int) (out : List aB), nH l f → v ≤ 1048576 * (2048 - f.length) → -(1048576 * (2048 - f.length)) ≤ v → f.length ≤ 1024 →
    nB (fun (s : List aB × Int) (j : aB) => some (if t ≤ j.At then .inr s else .inl (s.1 ++ [j], IntKind.i64.wrap (s.2 + j.Net)))) (fun s => s) (out, v) f = some (out ++ jL t f, v + sS (jL t f)) := by
  induction f with
  | nil => intro l v out _ _ _ _; simp [nB, jL, sS]
  | cons j r ih =>
    intro l v out h h1 h2 hl
    simp only [List.length_cons] at h1 h2 hl
    have hj1 := h.1
    by_cases hj : t ≤ j.At
    · rw [CR (x := (out, v)) (by simp [hj])]
      simp [jL, hj, sS]
    · have hw : IntKind.i64.wrap (v + j.Net) = v + j.Net := eA (by omega) (by omega)
      rw [CI (s' := (out ++ [j], v + j.Net)) (by simp [hj, hw])]
      rw [ih j.At (v + j.Net) (out ++ [j]) h.2 (by omega) (by omega) (by omega)]
      have : jL t (j :: r) = j :: jL t r := by simp [jL, hj]
      rw [this, LP]
      simp [Int.add_assoc]

def BE (t : Int) (f : List aB) : List aB := jL t f ++ (if sS (jL t f) = 0 then [] else [⟨t, -sS (jL t f)⟩])

def ahead (f : List aB) (t : Int) : List aB × Int :=
  if eW f then (if 1125899906842624 ≤ t then (f, 0) else told (BE t f)) else ([], 2)

theorem aAF {f : List aB} (hl : f.length ≤ 1024) : hU f = some f := by
  unfold hU
  exact aP ⟨by omega, by omega⟩

theorem UI {f : List aB} (hf : eW f = true) (t : Int) : sS (jL t f) ≤ 1073741824 ∧ -1073741824 ≤ sS (jL t f) := by
  rw [WU (lP.1 hf).2]
  exact NG hf _

theorem ZX (f : List aB) (t : Int) : sF f t = some (ahead f t) := by
  unfold sF ahead
  rw [BO]
  simp only [Option.bind_some]
  cases h : eW f
  · simp
  · obtain ⟨hl, hr⟩ := lP.1 h
    simp only [Bool.not_true, cond_false, if_true]
    by_cases ht : 1125899906842624 ≤ t
    · simp [ht, aAF hl]
    · rw [decide_eq_false ht, cond_false, if_neg ht]
      unfold uR
      have key := WW (l := f) (body := fun s : List aB × Int × Int => kM t f (f.length : Nat) s.1 s.2.1 s.2.2) (fun (s : List aB × Int) i => (s.1, s.2, i)) _ _ (fun i s => s.1.length = i)
        (fun i a s hi ha => by
          obtain ⟨d1, d2, d3, d4⟩ := idx ha (by omega)
          have hlt : i < f.length := (List.getElem?_eq_some_iff.1 ha).1
          have hb : kM t f (f.length : Nat) s.1 s.2 i = some (if t ≤ a.At then .inr s else .inl (s.1 ++ [a], IntKind.i64.wrap (s.2 + a.Net), ((i + 1 : Nat) : Int))) := by
            simp only [kM, d1, cond_true, aP d2, d3, d4]
            rw [aP (by simp only [List.length_cons, List.length_nil]; omega)]
            by_cases h : t ≤ a.At <;> simp [h]
          by_cases hh : t ≤ a.At
          · refine ⟨fun s' hs => by simp [hh] at hs, fun x hs => ?_⟩
            simp [hh] at hs; subst hs
            show kM t f (f.length : Nat) s.1 s.2 i = _
            rw [hb, if_pos hh]
          · refine ⟨fun s' hs => ?_, fun x hs => by simp [hh] at hs⟩
            simp [hh] at hs; subst hs
            refine ⟨by simp [hi], ?_⟩
            show kM t f (f.length : Nat) s.1 s.2 i = _
            rw [hb, if_neg hh])
        (fun s _ => by show kM t f (f.length : Nat) s.1 s.2 (f.length : Nat) = _; simp only [kM, lC, cond_false]) (s := ([], 0)) rfl (VL (t := t) f (-2) 0 [] hr (by omega) (by omega) hl)
      rw [key]
      have hb := UI h t
      have hlen := QM t f
      have hw : IntKind.i64.wrap (0 - sS (jL t f)) = -sS (jL t f) := by rw [eA (by omega) (by omega)]; omega
      simp only [Option.bind_some, List.nil_append, Int.zero_add, oQ, rM, BE, hw, aAN]
      by_cases hv : sS (jL t f) = 0
      · simp [hv]
      · rw [aP (by simp only [List.length_cons, List.length_nil]; omega)]
        simp [hv]

end Go.Abs
namespace Go.Abs
open Go
def aCy (t : Int) (f : List aB) : List aB := (if sS (jL t f) = 0 then [] else [⟨-1, sS (jL t f)⟩]) ++ aft t f

def rest (f : List aB) (t : Int) : List aB × Int :=
  if eW f then (if 1125899906842624 ≤ t then ([], 0) else if t ≤ -1 then (f, 0) else told (aCy t f)) else ([], 2)

end Go.Abs
namespace Go.Abs
open Go
def Up (last : Int) : List aB → Prop
  | [] => True
  | j :: r => (last < j.At ∧ j.At < 1125899906842624 ∧ j.Net ≠ 0) ∧ Up j.At r

theorem Up.above : ∀ {f : List aB} {last : Int}, Up last f → ∀ j ∈ f, last < j.At ∧ j.At < 1125899906842624 ∧ j.Net ≠ 0
  | [], _, _, j, hj => by simp at hj
  | a :: r, last, h, j, hj => by
    rcases List.mem_cons.1 hj with rfl | hj
    · exact h.1
    · have := h.2.above j hj
      have h1 := h.1.1
      exact ⟨by omega, this.2⟩

theorem Up.zC {l t : Int} {f : List aB} (h : Up l f) (ht : t ≤ l) : val f t = 0 := qB fun j hj => by have := (h.above j hj).1; omega

theorem Up.weaken {a b : Int} {f : List aB} (h : Up b f) (hab : a ≤ b) : Up a f := by
  cases f with
  | nil => trivial
  | cons j r => exact ⟨⟨by have := h.1.1; omega, h.1.2⟩, h.2⟩

theorem nH.up : ∀ {f : List aB} {last : Int}, nH last f → Up last f
  | [], _, _ => trivial
  | _ :: _, _, h => ⟨⟨h.1.1, h.1.2.1, h.1.2.2.1⟩, h.2.up⟩

theorem Up.ext : ∀ {f g : List aB} {last : Int}, Up last f → Up last g → (∀ t, last < t → t < 1125899906842624 → val f t = val g t) → f = g
  | [], [], _, _, _, _ => rfl
  | j :: r, [], last, hf, _, h => by
    have := h j.At hf.1.1 hf.1.2.1
    rw [gJ, if_pos (Int.le_refl _), hf.2.zC (Int.le_refl _), FE] at this
    exact absurd (by omega) hf.1.2.2
  | [], k :: s, last, _, hg, h => by
    have := h k.At hg.1.1 hg.1.2.1
    rw [gJ, if_pos (Int.le_refl _), hg.2.zC (Int.le_refl _), FE] at this
    exact absurd (by omega) hg.1.2.2
  | j :: r, k :: s, last, hf, hg, h => by
    have h1 := h j.At hf.1.1 hf.1.2.1
    have h2 := h k.At hg.1.1 hg.1.2.1
    rw [gJ, if_pos (Int.le_refl _), hf.2.zC (Int.le_refl _), gJ] at h1
    rw [gJ, gJ k, if_pos (Int.le_refl _), hg.2.zC (Int.le_refl _)] at h2
    have n1 := hf.1.2.2
    have n2 := hg.1.2.2
    have he : j.At = k.At := by
      rcases Int.lt_trichotomy j.At k.At with h3 | h3 | h3
      · rw [if_neg (by omega), hg.2.zC (by omega)] at h1; omega
      · exact h3
      · rw [if_neg (by omega), hf.2.zC (by omega)] at h2; omega
    rw [if_pos (by omega), hg.2.zC (by omega)] at h1
    have hj : j = k := by
      obtain ⟨a, b⟩ := j; obtain ⟨c, d⟩ := k
      simp only at he h1
      simp only [Int.add_zero] at h1
      rw [he, h1]
    subst hj
    rw [hf.2.ext hg.2 (fun t ht ht' => by
      have := h t (by have := hf.1.1; omega) ht'
      rw [gJ, gJ] at this; omega)]

def Inc (last : Int) : List Int → Prop
  | [] => True
  | p :: r => (last < p ∧ p < 1125899906842624) ∧ Inc p r

theorem Inc.above : ∀ {ps : List Int} {last : Int}, Inc last ps → ∀ p ∈ ps, last < p ∧ p < 1125899906842624
  | [], _, _, j, hj => by simp at hj
  | a :: r, last, h, j, hj => by
    rcases List.mem_cons.1 hj with rfl | hj
    · exact h.1
    · have := h.2.above j hj
      have h1 := h.1.1
      exact ⟨by omega, this.2⟩

end Go.Abs
namespace Go.Abs
open Go
theorem aAn {f : List aB} (h : eW f = true) : ∀ j ∈ f, j.Net ≤ 1048576 ∧ -1048576 ≤ j.Net := fun j hj => by have := (lP.1 h).2.above j hj; omega

def nE (t : Int) : List Int → List Int
  | [] => [t]
  | p :: r => if p = t then p :: r else if t < p then t :: p :: r else p :: nE t r

theorem MO {t x : Int} : ∀ {ps : List Int}, x ∈ nE t ps ↔ x = t ∨ x ∈ ps
  | [] => by simp [nE]
  | p :: r => by
    unfold nE
    split
    · rename_i h; subst h; simp
    · split
      · simp
      · simp only [List.mem_cons, MO (ps := r)]; constructor <;> (intro h; rcases h with h | h | h <;> simp [h])

theorem DH {t : Int} : ∀ {ps : List Int} {last : Int}, Inc last ps → last < t → t < 1125899906842624 → Inc last (nE t ps)
  | [], last, _, h1, h2 => ⟨⟨h1, h2⟩, trivial⟩
  | p :: r, last, h, h1, h2 => by
    unfold nE
    split
    · exact h
    · split
      · rename_i h3 h4
        exact ⟨⟨h1, h2⟩, ⟨h4, h.1.2⟩, h.2⟩
      · exact ⟨h.1, DH h.2 (by omega) h2⟩

theorem JO {t : Int} : ∀ {ps : List Int} {last : Int}, Inc last ps → t ∈ ps → nE t ps = ps
  | [], _, _, h => by simp at h
  | p :: r, last, hi, h => by
    unfold nE
    split
    · rfl
    · rename_i hp
      rcases List.mem_cons.1 h with h | h
      · exact absurd h.symm hp
      · have := (hi.2.above t h).1
        rw [if_neg (by omega), JO hi.2 h]

end Go.Abs
namespace Go.Abs
open Go
def mn (a b : Int) : Int := if b < a then b else a

def parts (v : Int) : List aB → List Int
  | [] => []
  | j :: r => (v + j.Net) :: parts (v + j.Net) r

def BB (f : List aB) : Int := (f.map fun j => val f j.At).foldl mn (val f (-1))

theorem parts_eq : ∀ {f : List aB} {l v : Int}, nH l f → parts v f = f.map fun j => v + val f j.At
  | [], _, _, _ => rfl
  | j :: r, l, v, h => by
    simp only [parts, List.map_cons]
    rw [parts_eq h.2, gJ, if_pos (Int.le_refl _), h.2.zC (Int.le_refl _), Int.add_zero]
    congr 1
    apply List.map_congr_left
    intro k hk
    have := (h.2.above k hk).1
    rw [gJ, if_pos (by omega)]; omega

theorem WQ {j : aB} {r : List aB} (h : nH (-2) (j :: r)) : val (j :: r) (-1) = if j.At = -1 then j.Net else 0 := by
  have := h.1.1
  by_cases e : j.At = -1
  · rw [if_pos e, gJ, if_pos (by omega), h.2.zC (by omega)]; omega
  · rw [if_neg e, qB]
    intro k hk
    rcases List.mem_cons.1 hk with rfl | hk
    · omega
    · have := (h.2.above k hk).1; omega

theorem IV {f : List aB} (hf : eW f = true) (m : Int) (hm : -1125899906842624 ≤ m ∧ m ≤ 1125899906842624) : rB 0 m f (f.length : Nat) 0 = some ((f.map fun j => val f j.At).foldl mn m) := by
  obtain ⟨hl, hr⟩ := lP.1 hf
  unfold rB
  rw [yQ (l := f) (body := fun s : Int × Int × Int => mF f (f.length : Nat) s.1 s.2.1 s.2.2) (fun (s : Int × Int) i => (s.1, s.2, i)) (fun s r => (parts s.1 r).foldl mn s.2)
    (fun s r => (∀ j ∈ r, j.Net ≤ 1048576 ∧ -1048576 ≤ j.Net) ∧ r.length ≤ 1024 ∧ s.1 ≤ 1048576 * (1024 - r.length) ∧ -(1048576 * (1024 - r.length)) ≤ s.1) (0, m) ?_ ?_ ?_]
  · simp only [Option.bind_some, rL, parts_eq hr, Int.zero_add]
  · rintro i a r ⟨v, m⟩ ha ⟨h1, h2, h3, h4⟩
    obtain ⟨d1, d2, d3, d4⟩ := idx ha (by omega)
    have hj := h1 a (List.mem_cons_self ..)
    simp only [List.length_cons] at h2 h3 h4
    have hw : IntKind.i64.wrap (v + a.Net) = v + a.Net := eA (by omega) (by omega)
    left
    refine ⟨(v + a.Net, mn m (v + a.Net)), ?_, ⟨fun j hj => h1 j (List.mem_cons_of_mem _ hj), by omega, by simp only; omega, by simp only; omega⟩, rfl⟩
    show mF f (f.length : Nat) v m i = _
    simp only [mF, d1, cond_true, aP d2, d3, d4, hw, mn]
  · rintro ⟨v, m⟩ _
    show mF f (f.length : Nat) v m (f.length : Nat) = _
    simp only [mF, lC, cond_false, parts, List.foldl_nil]
  · exact ⟨aAn hf, hl, by simp only; omega, by simp only; omega⟩

theorem aAd (f : List aB) : sX f = some (if eW f then BB f else 0) := by
  unfold sX
  rw [BO]
  cases h : eW f
  · simp
  · cases f with
    | nil => simp [BB, val]
    | cons j r =>
      obtain ⟨hl, hr⟩ := lP.1 h
      have hne : decide (((List.length (j :: r) : Nat) : Int) = 0) = false := by simp; omega
      simp only [Option.bind_some, Bool.not_true, Bool.false_or, hne, cond_false, aP aCU, aB1, if_true]
      have hj := hr.1
      unfold BB
      rw [WQ hr]
      by_cases e : j.At = -1
      · simp only [e, decide_true, cond_true, if_true, oP]
        exact IV h j.Net (by omega)
      · simp only [e, decide_false, cond_false, if_false, oP]
        exact IV h 0 (by omega)

theorem SY : eW [] = true := by decide

end Go.Abs
namespace Go.Abs
open Go
theorem w1 : IntKind.i64.wrap (0 + 1) = 1 := by rw [eA] <;> omega

theorem w2 : IntKind.i64.wrap (1 + 1) = 2 := by rw [eA] <;> omega

theorem w3 : IntKind.i64.wrap (1 - 1) = 0 := by rw [eA] <;> omega

theorem v0 : IntKind.i64.wrap 0 = 0 := by rw [eA] <;> omega

theorem v1 : IntKind.i64.wrap 1 = 1 := by rw [eA] <;> omega

theorem v2 : IntKind.i64.wrap 2 = 2 := by rw [eA] <;> omega

theorem v3 : IntKind.i64.wrap (-1) = -1 := by rw [eA] <;> omega

end Go.Abs
namespace Go.Abs
open Go
theorem aAP (f : List aB) : (told f).1.length ≤ 1024 := by
  unfold told
  cases h : eW f
  · simp
  · simpa using (lP.1 h).1

theorem YK (f : List aB) (t : Int) : (ahead f t).1.length ≤ 1024 := by
  unfold ahead
  split
  · split
    · exact (lP.1 (by assumption)).1
    · exact aAP _
  · simp

end Go.Abs
namespace Go.Abs
open Go
variable {α : Type} [Inhabited α]
noncomputable def oB (f1 : α → Option Bool) (s0 : (List α)) (t7 : Int) (t8 : Int) : Option ((Int) ⊕ (Unit ⊕ Int)) :=
  cond (decide (t8 < t7))
  (bD (0 ≤ t8 ∧ t8 < ((List.length s0 : Nat) : Int)) <|
  (f1 (List.getD s0 (Int.toNat t8) default)).bind fun x2 =>
  cond x2
  (some (.inr (.inr t8)))
  (some (.inl (IntKind.i64.wrap (t8 + (1 : Int))))))
  (some (.inr (.inl ())))

theorem OI {l : List α} {f : α → Option Bool} {g : α → Bool} (hl : l.length ≤ 1099511627776) (hf : ∀ x ∈ l, f x = some (g x)) : ∀ (r : List α) (k : Nat), l.drop k = r → k ≤ l.length →
    ∃ x, lp (fun s => oB f l (l.length : Nat) s) (k : Int) = some x ∧ ((x = .inl () ∧ r.any g = false) ∨ (∃ i : Nat, x = .inr (i : Int) ∧ k ≤ i ∧ i < l.length ∧ r.any g = true ∧ g (l.getD i default) = true ∧ ∀ j, k ≤ j → j < i → g (l.getD j default) = false))
  | [], k, hd, hk => by
    have : k = l.length := by
      have := congrArg List.length hd
      simp only [List.length_drop, List.length_nil] at this; omega
    subst this
    refine ⟨.inl (), cU ?_, Or.inl ⟨rfl, rfl⟩⟩
    show oB f l _ _ = _
    simp only [oB, lC, cond_false]
  | a :: r, k, hd, hk => by
    obtain ⟨h1, h2⟩ := drop_cons hd
    have hlt : k < l.length := (List.getElem?_eq_some_iff.1 h1).1
    obtain ⟨d1, d2, d3, d4⟩ := idx h1 (by omega)
    have hga : l.getD k default = a := by rw [Int.toNat_natCast] at d3; exact d3
    have hb : (fun s => oB f l (l.length : Nat) s) (k : Int) = some (if g a then .inr (.inr (k : Int)) else .inl ((k + 1 : Nat) : Int)) := by
      show oB f l _ _ = _
      simp only [oB, d1, cond_true, aP d2, d3, d4, hf a (List.mem_of_getElem? h1), Option.bind_some]
      cases g a <;> simp
    cases hg : g a
    · rw [hg] at hb
      obtain ⟨x, e, hx⟩ := OI hl hf r (k + 1) h2 (by omega)
      refine ⟨x, by rw [gH hb]; exact e, ?_⟩
      rcases hx with ⟨rfl, h⟩ | ⟨i, rfl, h3, h4, h5, h6, h7⟩
      · exact Or.inl ⟨rfl, by simp [hg, h]⟩
      · refine Or.inr ⟨i, rfl, by omega, h4, by simp [h5], h6, fun j hj hj' => ?_⟩
        by_cases e : j = k
        · subst e; rw [hga, hg]
        · exact h7 j (by omega) hj'
    · rw [hg] at hb
      exact ⟨.inr (k : Int), cU hb, Or.inr ⟨k, rfl, Nat.le_refl _, hlt, by simp [hg], by rw [hga, hg], fun j h h' => by omega⟩⟩

end Go.Abs
namespace Go.Abs
open Go
theorem LN (x y : ByteArray) : nR x y = decide (x = y) := by
  unfold nR
  rw [ByteArray.toList_eq, ByteArray.toList_eq]
  by_cases h : x = y
  · simp [h]
  · have : x.data.toList ≠ y.data.toList := by
      intro he
      apply h
      cases x; cases y
      congr 1
      exact Array.toList_inj.1 he
    have h2 : (x.data.toList == y.data.toList) = false := by simpa using this
    rw [h2]; simp [h]

theorem veq (a b : aE) : ((decide (a.Kind = b.Kind)) && ((decide (a.Num = b.Num)) && ((nR a.Text b.Text) && true))) = decide (a = b) := by
  rw [LN]
  obtain ⟨a1, a2, a3⟩ := a
  obtain ⟨b1, b2, b3⟩ := b
  by_cases h1 : a1 = b1 <;> by_cases h2 : a2 = b2 <;> by_cases h3 : a3 = b3 <;> simp [h1, h2, h3]

def CS (v : aE) : Bool := decide (v.Kind = 1) && nR v.Text (⟨#[]⟩ : ByteArray)

def CD (v : aE) : Bool := ((decide (v.Kind = 2)) && (decide (v.Num = 0))) && (decide (((ByteArray.size v.Text : Nat) : Int) ≤ 64))

def CJ (v : aE) : Bool := CS v || CD v

def sV (r : List aE) : Bool := decide (r.length ≤ 8) && r.all CJ

theorem of_eq (v : aE) : lK v = some (if CS v then (.k_number v.Num, true) else if CD v then (.k_words v.Text, true) else (.none_, false)) := by
  unfold lK CS CD
  cases (decide (v.Kind = 1) && nR v.Text (⟨#[]⟩ : ByteArray)) <;> cases (((decide (v.Kind = 2)) && (decide (v.Num = 0))) && (decide (((ByteArray.size v.Text : Nat) : Int) ≤ 64))) <;> rfl

theorem aBR (v : aE) : tV v = some (CJ v) := by
  unfold tV CJ
  rw [of_eq]
  cases CS v <;> cases CD v <;> rfl

theorem OK {l : List aE} {f : aE → Option Bool} {g : aE → Bool} (hl : l.length ≤ 1099511627776) (hf : ∀ x ∈ l, f x = some (g x)) : eU l f = some (l.any g) := by
  unfold eU iL iE
  obtain ⟨x, e, hx⟩ := OI hl hf l 0 rfl (Nat.zero_le _)
  have e' : lp (fun s => iD f l (l.length : Nat) s) 0 = some x := e
  rw [e']
  rcases hx with ⟨rfl, h⟩ | ⟨i, rfl, _, _, h, _⟩
  · simp [fC, h]
  · simp [h]

theorem KY (r : List aE) : sR r = some (sV r) := by
  unfold sR sV
  by_cases h : r.length ≤ 8
  · have h1 : decide ((8 : Int) < ((r.length : Nat) : Int)) = false := by simp; omega
    rw [h1, cond_false, OK (g := fun v => !CJ v) (by omega) (fun x _ => by simp [uC, aBR])]
    simp only [Option.bind_some, h, decide_true, Bool.true_and]
    congr 1
    rw [List.all_eq_not_any_not]
  · have h1 : decide ((8 : Int) < ((r.length : Nat) : Int)) = true := by simp; omega
    rw [h1, cond_true]
    simp [h]

theorem NM {α : Type} [DecidableEq α] {f g : List α} {body : Int → Option (Int ⊕ (Unit ⊕ Bool))} (he : f.length = g.length)
    (hb : ∀ (i : Nat) a b, f[i]? = some a → g[i]? = some b → body i = some (if a = b then .inl ((i + 1 : Nat) : Int) else .inr (.inr false)))
    (hend : body (f.length : Nat) = some (.inr (.inl ()))) : ∀ (m k : Nat), f.length - k = m → k ≤ f.length → lp body (k : Int) = some (if f.drop k = g.drop k then .inl () else .inr false)
  | 0, k, hm, hk => by
    have : k = f.length := by omega
    subst this
    rw [List.drop_length, he, List.drop_length, if_pos rfl]
    rw [← he]
    exact cU hend
  | m + 1, k, hm, hk => by
    have h1 : k < f.length := by omega
    have h2 : k < g.length := by omega
    have hbk := hb k _ _ (List.getElem?_eq_getElem h1) (List.getElem?_eq_getElem h2)
    have e1 : f.drop k = f[k] :: f.drop (k + 1) := List.drop_eq_getElem_cons h1
    have e2 : g.drop k = g[k] :: g.drop (k + 1) := List.drop_eq_getElem_cons h2
    have hiff : (f.drop k = g.drop k) ↔ (f[k] = g[k] ∧ f.drop (k + 1) = g.drop (k + 1)) := by rw [e1, e2, List.cons.injEq]
    by_cases h : f[k] = g[k]
    · rw [if_pos h] at hbk
      rw [gH hbk, NM he hb hend m (k + 1) (by omega) (by omega)]
      simp only [hiff, h, true_and]
    · rw [if_neg h] at hbk
      rw [cU hbk]
      simp only [hiff, h, false_and, if_false]

theorem RL {α : Type} {f g : List α} (h : f.length ≠ g.length) : (!decide (((f.length : Nat) : Int) = ((g.length : Nat) : Int))) = true := by simp; omega

theorem DJ {α : Type} {f g : List α} (h : f.length = g.length) : (!decide (((f.length : Nat) : Int) = ((g.length : Nat) : Int))) = false := by simp [h]

theorem IX (a b : List aE) (hl : a.length ≤ 17592186044416) : qP a b = some (decide (a = b)) := by
  unfold qP jO
  by_cases he : a.length = b.length
  · rw [DJ he, cond_false]
    unfold jH
    have := NM (f := a) (g := b) (body := fun s => eV a b (a.length : Nat) s) he ?_ ?_ a.length 0 rfl (Nat.zero_le _)
    · simp only [Int.natCast_zero, List.drop_zero] at this
      rw [this]
      by_cases h : a = b <;> simp [h, gO]
    · intro i x y hx hy
      obtain ⟨d1, d2, d3, d4⟩ := idx hx (by omega)
      obtain ⟨_, e2, e3, _⟩ := idx hy (by omega)
      simp only [eV, d1, cond_true, aP d2, aP e2, d3, e3, d4, veq]
      by_cases h : x = y <;> simp [h]
    · simp only [eV, lC, cond_false]
  · rw [RL he, cond_true]
    have : a ≠ b := fun h => he (by rw [h])
    simp [this]

theorem CV (a b : List aE) (hl : a.length ≤ 17592186044416) : qA a b = some (decide (a = b)) := by
  unfold qA
  by_cases he : a.length = b.length
  · rw [DJ he, cond_false]
    unfold uI
    have := NM (f := a) (g := b) (body := fun s => oS a b s) he ?_ ?_ a.length 0 rfl (Nat.zero_le _)
    · simp only [Int.natCast_zero, List.drop_zero] at this
      rw [this]
      by_cases h : a = b <;> simp [h, rN]
    · intro i x y hx hy
      obtain ⟨d1, d2, d3, d4⟩ := idx hx (by omega)
      obtain ⟨_, e2, e3, _⟩ := idx hy (by omega)
      simp only [oS, d1, cond_true, aP d2, aP e2, d3, e3, d4, veq]
      by_cases h : x = y <;> simp [h]
    · simp only [oS, lC, cond_false]
  · rw [RL he, cond_true]
    have : a ≠ b := fun h => he (by rw [h])
    simp [this]

structure EH {α : Type} (c : α → α → Int) : Prop where
  eq : ∀ a b, c a b = 0 ↔ a = b
  anti : ∀ a b, c a b < 0 ↔ 0 < c b a
  trans : ∀ a b d, c a b < 0 → c b d < 0 → c a d < 0

def qY (x y : Int) : Int := if x < y then -1 else if y < x then 1 else 0

theorem zW : EH qY where
  eq a b := by unfold qY; (repeat' split) <;> omega
  anti a b := by unfold qY; (repeat' split) <;> omega
  trans a b d := by unfold qY; (repeat' split) <;> omega

def lB {α : Type} [DecidableEq α] (c : α → α → Int) : List α → List α → Int
  | [], [] => 0
  | [], _ :: _ => -1
  | _ :: _, [] => 1
  | a :: r, b :: s => if a = b then lB c r s else c a b

theorem EH.list {α : Type} [DecidableEq α] {c : α → α → Int} (h : EH c) : EH (lB c) where
  eq := by
    intro a
    induction a with
    | nil => intro b; cases b <;> simp [lB]
    | cons x r ih =>
      intro b
      cases b with
      | nil => simp [lB]
      | cons y s =>
        unfold lB
        split
        · rename_i e; subst e; rw [ih]; simp
        · rename_i e
          have := h.eq x y
          constructor
          · intro h0; exact absurd (this.1 h0) e
          · intro h0; cases h0; exact absurd rfl e
  anti := by
    intro a
    induction a with
    | nil => intro b; cases b <;> simp [lB]
    | cons x r ih =>
      intro b
      cases b with
      | nil => simp [lB]
      | cons y s =>
        unfold lB
        by_cases e : x = y
        · subst e; simp only [if_true]; exact ih s
        · rw [if_neg e, if_neg (fun e' => e e'.symm)]; exact h.anti x y
  trans := by
    intro a
    induction a with
    | nil =>
      intro b d
      cases b <;> cases d <;> simp [lB]
    | cons x r ih =>
      intro b d
      cases b with
      | nil => simp [lB]
      | cons y s =>
        cases d with
        | nil => simp [lB]
        | cons z t =>
          unfold lB
          by_cases e1 : x = y
          · subst e1
            rw [if_pos rfl]
            by_cases e2 : x = z
            · subst e2; rw [if_pos rfl, if_pos rfl]; exact ih s t
            · rw [if_neg e2, if_neg e2]; exact fun _ h => h
          · rw [if_neg e1]
            by_cases e2 : y = z
            · have hz : ¬ x = z := fun e => e1 (e.trans e2.symm)
              intro h _
              rw [if_neg hz, ← e2]; exact h
            · rw [if_neg e2]
              intro h1 h2
              by_cases e3 : x = z
              · subst e3
                have h3 := (h.anti x y).1 h1
                omega
              · rw [if_neg e3]; exact h.trans x y z h1 h2

def HC (a b : UInt8) : Int := if a < b then -1 else if b < a then 1 else 0

theorem GV : EH HC where
  eq a b := by
    unfold HC
    constructor
    · intro h
      split at h
      · cases h
      · split at h
        · cases h
        · rename_i h1 h2
          rw [UInt8.lt_iff_toNat_lt] at h1 h2
          exact UInt8.toNat_inj.1 (by omega)
    · rintro rfl
      have : ¬ a < a := by rw [UInt8.lt_iff_toNat_lt]; omega
      simp [this]
  anti a b := by
    unfold HC
    simp only [UInt8.lt_iff_toNat_lt]
    (repeat' split) <;> omega
  trans a b d := by
    unfold HC
    simp only [UInt8.lt_iff_toNat_lt]
    (repeat' split) <;> omega

theorem AM : ∀ (a b : List UInt8), Go.Lib.compareBytes a b = lB HC a b
  | [], [] => rfl
  | [], _ :: _ => rfl
  | _ :: _, [] => rfl
  | a :: r, b :: s => by
    unfold Go.Lib.compareBytes lB
    rw [AM r s]
    by_cases e : a = b
    · subst e
      have : ¬ a < a := by rw [UInt8.lt_iff_toNat_lt]; omega
      simp [this]
    · rw [if_neg e]
      unfold HC
      have : ¬ (¬ a < b ∧ ¬ b < a) := by
        rintro ⟨h1, h2⟩
        rw [UInt8.lt_iff_toNat_lt] at h1 h2
        exact e (UInt8.toNat_inj.1 (by omega))
      by_cases h1 : a < b
      · simp [h1]
      · have h2 : b < a := Classical.byContradiction fun h2 => this ⟨h1, h2⟩
        simp [h1, h2]

def OD (a b : ByteArray) : Int := lB HC a.data.toList b.data.toList

theorem aBi (a b : ByteArray) : KM a b = OD a b := AM _ _

theorem data_inj {x y : ByteArray} (h : x.data.toList = y.data.toList) : x = y := by
  cases x; cases y
  congr 1
  exact Array.toList_inj.1 h

theorem BQ : EH OD where
  eq a b := by unfold OD; rw [(GV.list).eq]; exact ⟨data_inj, fun h => by rw [h]⟩
  anti a b := (GV.list).anti _ _
  trans a b d := (GV.list).trans _ _ _

def zP (a b : aE) : Int := if a.Kind = b.Kind then (if a.Num = b.Num then OD a.Text b.Text else qY a.Num b.Num) else qY a.Kind b.Kind

theorem aAx : EH zP where
  eq a b := by
    obtain ⟨a1, a2, a3⟩ := a
    obtain ⟨b1, b2, b3⟩ := b
    unfold zP
    simp only [aE.mk.injEq]
    by_cases h1 : a1 = b1
    · by_cases h2 : a2 = b2
      · simp [h1, h2, BQ.eq]
      · simp [h1, h2, zW.eq]
    · simp [h1, zW.eq]
  anti a b := by
    unfold zP
    by_cases h1 : a.Kind = b.Kind
    · rw [if_pos h1, if_pos h1.symm]
      by_cases h2 : a.Num = b.Num
      · rw [if_pos h2, if_pos h2.symm]; exact BQ.anti _ _
      · rw [if_neg h2, if_neg (fun h => h2 h.symm)]; exact zW.anti _ _
    · rw [if_neg h1, if_neg (fun h => h1 h.symm)]; exact zW.anti _ _
  trans a b d := by
    unfold zP
    intro h1 h2
    have lt : ∀ {x y : Int}, qY x y < 0 → x < y := fun {x y} h => by unfold qY at h; split at h <;> (try split at h) <;> omega
    have mk : ∀ {x y : Int}, x < y → qY x y < 0 := fun {x y} h => by unfold qY; rw [if_pos h]; omega
    by_cases e1 : a.Kind = b.Kind
    · rw [if_pos e1] at h1
      by_cases e2 : b.Kind = d.Kind
      · rw [if_pos e2] at h2
        rw [if_pos (e1.trans e2)]
        by_cases f1 : a.Num = b.Num
        · rw [if_pos f1] at h1
          by_cases f2 : b.Num = d.Num
          · rw [if_pos f2] at h2
            rw [if_pos (f1.trans f2)]
            exact BQ.trans _ _ _ h1 h2
          · rw [if_neg f2] at h2
            rw [f1, if_neg f2]; exact h2
        · rw [if_neg f1] at h1
          have g1 := lt h1
          by_cases f2 : b.Num = d.Num
          · rw [← f2, if_neg f1]; exact h1
          · rw [if_neg f2] at h2
            have g2 := lt h2
            rw [if_neg (by omega)]
            exact mk (by omega)
      · rw [if_neg e2] at h2
        rw [e1, if_neg e2]; exact h2
    · rw [if_neg e1] at h1
      have g1 := lt h1
      by_cases e2 : b.Kind = d.Kind
      · rw [← e2, if_neg e1]; exact h1
      · rw [if_neg e2] at h2
        have g2 := lt h2
        rw [if_neg (by omega)]
        exact mk (by omega)

def qO (a b : List aE) : Int := lB zP a b

theorem wN : EH qO := aAx.list

end Go.Abs
namespace Go.Abs
open Go
theorem YZ (x y : Int) : nQ x y = some (qY x y) := by
  unfold nQ kX qY
  by_cases h1 : x < y
  · simp [h1]
  · by_cases h2 : y < x <;> simp [h1, h2]

theorem YY (x y : Int) : fT x y = some (qY x y) := by
  unfold fT kI qY
  by_cases h1 : x < y
  · simp [h1]
  · by_cases h2 : y < x <;> simp [h1, h2]

theorem FG {v : aE} (h : CS v = true) : v.Kind = 1 ∧ v.Text = (⟨#[]⟩ : ByteArray) := by
  simp only [CS, LN, Bool.and_eq_true, decide_eq_true_eq] at h; exact h

theorem CG {v : aE} (h : CD v = true) : v.Kind = 2 ∧ v.Num = 0 ∧ v.Text.size ≤ 64 := by
  simp only [CD, Bool.and_eq_true, decide_eq_true_eq] at h; exact ⟨h.1.1, h.1.2, by omega⟩

theorem TZ {v : aE} (h : CJ v = true) : CS v = true ∨ (CS v = false ∧ CD v = true) := by
  unfold CJ at h
  cases hn : CS v
  · rw [hn] at h; exact .inr ⟨rfl, by simpa using h⟩
  · exact .inl rfl

theorem WZ (a : ByteArray) : OD a a = 0 := (BQ.eq a a).2 rfl

theorem FA (a : Int) : qY a a = 0 := (zW.eq a a).2 rfl

theorem XD {a b : aE} (ha : CJ a = true) (hb : CJ b = true) : oV a b = some (zP a b) := by
  unfold oV
  simp only [of_eq, Option.bind_some]
  rcases TZ ha with h1 | ⟨h1, h1'⟩ <;> rcases TZ hb with h2 | ⟨h2, h2'⟩
  · obtain ⟨k1, t1⟩ := FG h1
    obtain ⟨k2, t2⟩ := FG h2
    simp only [h1, h2, if_true, Bool.not_true, Bool.or_self, cond_false, YY, Option.bind_some]
    unfold zP
    rw [k1, k2, t1, t2, if_pos rfl, WZ]
    by_cases hn : a.Num = b.Num
    · rw [if_pos hn, hn, FA]
    · rw [if_neg hn]
  · obtain ⟨k1, t1⟩ := FG h1
    obtain ⟨k2, n2, _⟩ := CG h2'
    simp only [h1, h2, h2', if_true, Bool.false_eq_true, if_false, Bool.not_true, Bool.or_self, cond_false]
    unfold zP
    rw [k1, k2]; rfl
  · obtain ⟨k1, n1, _⟩ := CG h1'
    obtain ⟨k2, t2⟩ := FG h2
    simp only [h1, h1', h2, if_true, Bool.false_eq_true, if_false, Bool.not_true, Bool.or_self, cond_false]
    unfold zP
    rw [k1, k2]; rfl
  · obtain ⟨k1, n1, _⟩ := CG h1'
    obtain ⟨k2, n2, _⟩ := CG h2'
    simp only [h1, h1', h2, h2', if_true, Bool.false_eq_true, if_false, Bool.not_true, Bool.or_self, cond_false]
    unfold zP mE jK
    rw [k1, k2, n1, n2, if_pos rfl, if_pos rfl]
    simp [aBi]

theorem SZ {r : List aE} (h : sV r = true) : r.length ≤ 8 ∧ ∀ v ∈ r, CJ v = true := by
  simp only [sV, Bool.and_eq_true, decide_eq_true_eq, List.all_eq_true] at h; exact h

theorem aAG {a b : List aE} {k : Nat} (hk : k = a.length ∨ k = b.length) (h1 : k ≤ a.length) (h2 : k ≤ b.length) : qO (a.drop k) (b.drop k) = qY a.length b.length := by
  rcases hk with rfl | rfl
  · rw [List.drop_length]
    by_cases h : a.length = b.length
    · rw [h, List.drop_length, FA]; rfl
    · rw [List.drop_eq_getElem_cons (by omega)]
      show (-1 : Int) = _
      unfold qY; rw [if_pos (by omega)]
  · rw [List.drop_length]
    by_cases h : a.length = b.length
    · rw [← h, List.drop_length, FA]; rfl
    · rw [List.drop_eq_getElem_cons (by omega)]
      show (1 : Int) = _
      unfold qY; rw [if_neg (by omega), if_pos (by omega)]

theorem TX {a b : List aE} (hl : a.length ≤ 8) (hlb : b.length ≤ 8) (n : Nat) (hn : n = min a.length b.length) : ∀ (m k : Nat), n - k = m → k ≤ n →
    ∃ x, lp (fun s : Int × Int => cC (fun st y0 => (jT y0 st b).bind fun o => some (o.2, o.1)) (a.take n) (n : Nat) s.1 s.2) ((k : Int) - 1, (k : Int)) = some x ∧
      ((∃ sg, x = .inl sg ∧ qO (a.drop k) (b.drop k) = qY a.length b.length) ∨
        (∃ i : Nat, x = .inr ((i : Int), (i : Int)) ∧ i < a.length ∧ i < b.length ∧ qO (a.drop k) (b.drop k) = zP (a.getD i default) (b.getD i default)))
  | 0, k, hm, hk => by
    have : k = n := by omega
    subst this
    refine ⟨.inl ((k : Int) - 1), cU ?_, .inl ⟨_, rfl, aAG (by omega) (by omega) (by omega)⟩⟩
    show cC _ _ _ _ _ = _
    simp only [cC, lC, cond_false]
  | m + 1, k, hm, hk => by
    have h1 : k < a.length := by omega
    have h2 : k < b.length := by omega
    have ht : (a.take n)[k]? = some a[k] := by
      rw [List.getElem?_take_of_lt (by omega)]; exact List.getElem?_eq_getElem h1
    obtain ⟨d1, d2, d3, d4⟩ := idx ht (by simp; omega)
    have hlt : (a.take n).length = n := by simp; omega
    rw [hlt] at d1 d2
    obtain ⟨_, e2, e3, _⟩ := idx (List.getElem?_eq_getElem h2) (by omega)
    have hw : IntKind.i64.wrap ((k : Int) - 1 + 1) = (k : Int) := by rw [eA (by omega) (by omega)]; omega
    have hb : (fun s : Int × Int => cC (fun st y0 => (jT y0 st b).bind fun o => some (o.2, o.1)) (a.take n) (n : Nat) s.1 s.2) ((k : Int) - 1, (k : Int)) =
        some (if a[k] = b[k] then .inl ((k : Int), ((k + 1 : Nat) : Int)) else .inr (.inr ((k : Int), (k : Int)))) := by
      show cC _ _ _ _ _ = _
      simp only [cC, d1, cond_true, hlt, aP d2, d3, d4, jT, hw, aP e2, e3, veq, Option.bind_some]
      by_cases h : a[k] = b[k] <;> simp [h]
    have ea : a.drop k = a[k] :: a.drop (k + 1) := List.drop_eq_getElem_cons h1
    have eb : b.drop k = b[k] :: b.drop (k + 1) := List.drop_eq_getElem_cons h2
    by_cases h : a[k] = b[k]
    · rw [if_pos h] at hb
      obtain ⟨x, e, hx⟩ := TX hl hlb n hn m (k + 1) (by omega) (by omega)
      have hc : qO (a.drop k) (b.drop k) = qO (a.drop (k + 1)) (b.drop (k + 1)) := by
        rw [ea, eb]; unfold qO; rw [lB, if_pos h]
      refine ⟨x, ?_, by rw [hc]; exact hx⟩
      rw [gH hb]
      rw [show ((k + 1 : Nat) : Int) - 1 = (k : Int) by omega] at e
      exact e
    · rw [if_neg h] at hb
      refine ⟨_, cU hb, .inr ⟨k, rfl, h1, h2, ?_⟩⟩
      rw [ea, eb]; unfold qO; rw [lB, if_neg h]
      simp [List.getD_eq_getElem?_getD, h1, h2]

theorem XB (a b : List aE) : rA a b = some (if sV a && sV b then qO a b else 0) := by
  unfold rA
  rw [KY]
  simp only [Option.bind_some]
  cases ha : sV a
  · simp [cW]
  · simp only [Bool.not_true, Bool.not_false, cW, cond_true, KY, Option.bind_some, Bool.false_or]
    cases hb : sV b
    · simp
    · obtain ⟨la, ma⟩ := SZ ha
      obtain ⟨lb, mb⟩ := SZ hb
      have hif : (if ((List.length b : Nat) : Int) < ((List.length a : Nat) : Int) then ((List.length b : Nat) : Int) else ((List.length a : Nat) : Int)) = ((min a.length b.length : Nat) : Int) := by split <;> omega
      have hlt : (a.take (min a.length b.length)).length = min a.length b.length := by rw [List.length_take]; omega
      simp only [Bool.not_true, cond_false, hif, Int.toNat_natCast, sB, Option.bind_some, hY, gV, hlt, Bool.and_self, if_true]
      rw [aP ⟨by omega, by omega⟩]
      obtain ⟨x, e, hx⟩ := TX (a := a) (b := b) la lb _ rfl _ 0 rfl (Nat.zero_le _)
      have e' : lp (fun s : Int × Int => cC (fun st y0 => (jT y0 st b).bind fun o => some (o.2, o.1)) (a.take (min a.length b.length)) (min a.length b.length : Nat) s.1 s.2) ((-1 : Int), (0 : Int)) = some x := e
      rw [e']
      simp only [List.drop_zero] at hx
      rcases hx with ⟨sg, rfl, h⟩ | ⟨i, rfl, h1, h2, h⟩
      · simp [eT, YZ, h]
      · have hi : decide ((i : Int) < 0) = false := by simp
        simp only [Option.bind_some, Sum.elim_inr, hi, cond_false, Int.toNat_natCast]
        rw [aP ⟨by omega, by omega⟩, aP ⟨by omega, by omega⟩]
        have g1 : a.getD i default ∈ a := by simp [List.getD_eq_getElem?_getD, h1]
        have g2 : b.getD i default ∈ b := by simp [List.getD_eq_getElem?_getD, h2]
        rw [XD (ma _ g1) (mb _ g2), h]
        simp only [Option.bind_some]

end Go.Abs
namespace Go.Abs
open Go
def jE (e : aM) : aB := ⟨e.At, e.Net⟩

def gA (r : List aE) (f : List aB) : List aM → List (List aE × List aB)
  | [] => [(r, f)]
  | e :: l => if e.Row = r then gA r (f ++ [jE e]) l else (r, f) :: gA e.Row [jE e] l

def groups : List aM → List (List aE × List aB)
  | [] => []
  | e :: l => gA e.Row [jE e] l

def itG {σ : Type} (y : σ → List aE → List aB → Option (σ × Bool)) : List (List aE × List aB) → σ → Option σ
  | [], s => some s
  | g :: gs, s => (y s g.1 g.2).bind fun x => if x.2 then itG y gs x.1 else some x.1

def okL (l : List aM) : Prop := l.length ≤ 3518437208783 ∧ ∀ e ∈ l, e.Row.length ≤ 4398046510976

theorem yB {r : List aE} (h : r.length ≤ 4398046510976) : qQ r = some r := by
  unfold qQ
  rw [aP ⟨by omega, by omega, by omega⟩, aP (by simp only [List.length_nil, Nat.zero_add]; omega)]
  rfl

theorem HQ {σ : Type} {y : σ → List aE → List aB → Option (σ × Bool)} {l : List aM} (hl : okL l) (row : List aE) (sg : σ) : ∀ (r : List aM) (k : Nat) (f : List aB), l.drop k = r → k ≤ l.length → f.length ≤ k →
    ∃ k' f', k ≤ k' ∧ k' ≤ l.length ∧ f'.length ≤ k' ∧ lp (fun s : σ × Int × List aB => jM y l row s.1 s.2.1 s.2.2) (sg, (k : Int), f) = some (sg, ((k' : Nat) : Int), f') ∧
      gA row f r = (row, f') :: groups (l.drop k') ∧ (∀ e r', r = e :: r' → e.Row = row → k < k')
  | [], k, f, hd, hk, hf => by
    have : k = l.length := by
      have := congrArg List.length hd
      simp only [List.length_drop, List.length_nil] at this; omega
    subst this
    refine ⟨l.length, f, Nat.le_refl _, Nat.le_refl _, hf, cU ?_, by simp [gA, groups], fun e r' h => by cases h⟩
    show jM _ _ _ _ _ _ = _
    simp only [jM, lC, cW, cond_false, Option.bind_some, Bool.false_and]
    exact aP (fun h => by cases h)
  | a :: r, k, f, hd, hk, hf => by
    obtain ⟨h1, h2⟩ := drop_cons hd
    have hlt : k < l.length := (List.getElem?_eq_some_iff.1 h1).1
    obtain ⟨hll, hlr⟩ := hl
    obtain ⟨d1, d2, d3, d4⟩ := idx h1 (by omega)
    have har := hlr a (List.mem_of_getElem? h1)
    have hb : (fun s : σ × Int × List aB => jM y l row s.1 s.2.1 s.2.2) (sg, (k : Int), f) = some (if a.Row = row then .inl (sg, ((k + 1 : Nat) : Int), f ++ [jE a]) else .inr (sg, (k : Int), f)) := by
      show jM _ _ _ _ _ _ = _
      simp only [jM, d1, d3, d4, cW, cond_true, IX a.Row row (by omega), Option.bind_some, Bool.true_and]
      rw [aP (fun _ => d2)]
      by_cases e : a.Row = row
      · simp only [e, decide_true, cond_true, if_true]
        rw [aP d2, aP d2, aP (by simp only [List.length_cons, List.length_nil]; omega)]
        rfl
      · simp [e]
    by_cases e : a.Row = row
    · rw [if_pos e] at hb
      obtain ⟨k', f', g1, g2, g3, g4, g5, _⟩ := HQ ⟨hll, hlr⟩ row sg r (k + 1) (f ++ [jE a]) h2 (by omega) (by simp; omega) (y := y)
      refine ⟨k', f', by omega, g2, g3, by rw [gH hb]; exact g4, by simp [gA, e, g5], fun _ _ _ _ => by omega⟩
    · rw [if_neg e] at hb
      refine ⟨k, f, Nat.le_refl _, hk, hf, cU hb, ?_, fun b r' h hr => by cases h; exact absurd hr e⟩
      rw [hd]; simp [gA, e, groups]

theorem VB {σ : Type} {y : σ → List aE → List aB → Option (σ × Bool)} {l : List aM} (hl : okL l) : ∀ (m k : Nat) (sg s' : σ), l.length - k ≤ m → k ≤ l.length → itG y (groups (l.drop k)) sg = some s' →
    ∃ x, lp (fun s : σ × Int => iO y l s.1 s.2) (sg, (k : Int)) = some x ∧ Sum.elim id id x = s' := by
  have stop : ∀ (sg s' : σ), itG y (groups (l.drop l.length)) sg = some s' → ∃ x, lp (fun s : σ × Int => iO y l s.1 s.2) (sg, ((l.length : Nat) : Int)) = some x ∧ Sum.elim id id x = s' := by
    intro sg s' h
    rw [List.drop_length] at h
    simp only [groups, itG, Option.some.injEq] at h
    refine ⟨.inl sg, cU ?_, h⟩
    show iO _ _ _ _ = _
    simp only [iO, lC, cond_false]
  intro m
  induction m with
  | zero =>
    intro k sg s' hm hk h
    have : k = l.length := by omega
    subst this; exact stop sg s' h
  | succ m ih =>
    intro k sg s' hm hk h
    by_cases he : k = l.length
    · subst he; exact stop sg s' h
    · have hlt : k < l.length := by omega
      have hd : l.drop k = l[k] :: l.drop (k + 1) := List.drop_eq_getElem_cons hlt
      obtain ⟨d1, d2, d3, d4⟩ := idx (List.getElem?_eq_getElem hlt) (by have := hl.1; omega)
      obtain ⟨k', f', g1, g2, g3, g4, g5, g6⟩ := HQ hl l[k].Row sg (l.drop k) k [] rfl hk (by simp) (y := y)
      have hk' := g6 _ _ hd rfl
      have hg : groups (l.drop k) = (l[k].Row, f') :: groups (l.drop k') := by
        rw [← g5, hd]; simp [groups, gA]
      rw [hg] at h
      simp only [itG] at h
      obtain ⟨x, hx, h⟩ := aV h
      have hrow := hl.2 _ (List.getElem_mem hlt)
      have hb : (fun s : σ × Int => iO y l s.1 s.2) (sg, (k : Int)) = some (if x.2 then .inl (x.1, ((k' : Nat) : Int)) else .inr (.inr x.1)) := by
        show iO _ _ _ _ = _
        simp only [iO, d1, cond_true, aP d2, d3, qW, g4, Option.bind_some, oD, yB hrow, hx]
        cases x.2 <;> simp
      cases hx2 : x.2
      · rw [hx2] at hb h
        simp only [Bool.false_eq_true, if_false, Option.some.injEq] at hb h
        exact ⟨_, cU hb, h⟩
      · rw [hx2] at hb h
        simp only [if_true] at hb h
        obtain ⟨z, hz1, hz2⟩ := ih k' x.1 s' (by omega) g2 h
        exact ⟨z, by rw [gH hb]; exact hz1, hz2⟩

theorem KA {σ : Type} {y : σ → List aE → List aB → Option (σ × Bool)} {l : List aM} (hl : okL l) {s s' : σ} (h : itG y (groups l) s = some s') : lZ y l s = some s' := by
  unfold lZ qL
  obtain ⟨x, h1, h2⟩ := VB hl l.length 0 s s' (by omega) (Nat.zero_le _) (by simpa using h)
  simp only [Int.natCast_zero] at h1
  rw [h1]
  cases x <;> simpa using h2

def ahd (last : Option (List aE)) (r : List aE) : Bool := match last with
  | none => true
  | some q => decide (qO q r < 0)

def uP (p : List aB → Bool) : Option (List aE) → List (List aE × List aB) → Bool
  | _, [] => true
  | last, g :: gs => (sV g.1 && ahd last g.1 && p g.2) && uP p (some g.1) gs

theorem TC {holds : List aB → Option Bool} {p : List aB → Bool} (hp : ∀ f, holds f = some (p f)) (c : List aM) (t : Bool) : ∀ (gs : List (List aE × List aB)) (last : List aE) (b : Bool), (b = true → sV last = true) →
    ∃ x, itG (fun st r f => rnd (fun (s : Bool × (List aE) × Bool) => oE holds c s.1 s.2.1 s.2.2 r f) st) gs (.inl (t, last, b)) = some x ∧
      (if uP p (if b then some last else none) gs then ∃ u, x = .inl (t, u) else ∃ u, x = .inr (false, u))
  | [], last, b, _ => ⟨_, rfl, by simp [uP]⟩
  | g :: gs, last, b, hb => by
    have hy : oE holds c t last b g.1 g.2 = some (if sV g.1 && ahd (if b then some last else none) g.1 && p g.2 then .inl (t, g.1, true) else .inr (false, last, b)) := by
      unfold oE
      simp only [KY, Option.bind_some, XB, hp]
      cases hm : sV g.1
      · simp [cW]
      · cases b
        · cases h2 : p g.2 <;> simp [cW, ahd, h2]
        · have hl := hb rfl
          by_cases h1 : qO last g.1 < 0
          · have h1' : ¬ (0 ≤ qO last g.1) := by omega
            cases h2 : p g.2 <;> simp [cW, ahd, h2, hl, h1, h1']
          · have h1' : 0 ≤ qO last g.1 := by omega
            simp [cW, ahd, hl, h1, h1']
    cases hc : (sV g.1 && ahd (if b then some last else none) g.1 && p g.2)
    · rw [hc] at hy
      simp only [itG, rnd, hy, Option.bind_some, uP, hc]
      exact ⟨.inr (false, last, b), by simp, by simp⟩
    · rw [hc] at hy
      simp only [itG, rnd, hy, Option.bind_some, uP, hc]
      have hm : sV g.1 = true := by simp only [Bool.and_eq_true] at hc; exact hc.1.1
      obtain ⟨x, h1, h2⟩ := TC hp c t gs g.1 true (fun _ => hm)
      refine ⟨x, ?_, ?_⟩
      · simpa [rnd] using h1
      · simpa using h2

theorem TJ {l : List aM} (hl : okL l) {holds : List aB → Option Bool} {p : List aB → Bool} (hp : ∀ f, holds f = some (p f)) : rQ l holds = some (decide (l.length ≤ 4096) && uP p none (groups l)) := by
  unfold rQ
  by_cases h : l.length ≤ 4096
  · have h1 : decide ((4096 : Int) < ((l.length : Nat) : Int)) = false := by simp; omega
    rw [h1, cond_false]
    simp only [nW, Option.bind_some, vY]
    obtain ⟨x, e1, e2⟩ := TC hp l false (groups l) [] false (fun h => by cases h)
    rw [KA hl e1]
    simp only [Bool.false_eq_true, if_false] at e2
    simp only [h, decide_true, Bool.true_and]
    cases hc : uP p none (groups l)
    · rw [hc] at e2
      simp only [Bool.false_eq_true, if_false] at e2
      obtain ⟨u, rfl⟩ := e2
      rfl
    · rw [hc] at e2
      simp only [if_true] at e2
      obtain ⟨u, rfl⟩ := e2
      rfl
  · have h1 : decide ((4096 : Int) < ((l.length : Nat) : Int)) = true := by simp; omega
    rw [h1, cond_true]
    simp [h]

def lF (l : List aM) : Bool := decide (l.length ≤ 4096) && uP eW none (groups l)

theorem JZ {l : List aM} (hl : okL l) : qI l = some (lF l) := by
  unfold qI
  rw [TJ hl (p := eW) (fun f => BO f)]; rfl

def KL (f : List aB) : Bool := eW f && decide (0 ≤ BB f)

def uH (l : List aM) : Bool := decide (l.length ≤ 4096) && uP KL none (groups l)

theorem YE {l : List aM} (hl : okL l) : sY l = some (uH l) := by
  unfold sY
  rw [TJ hl (p := KL) (fun f => by
    unfold pY KL
    rw [BO]
    cases h : eW f <;> simp [cW, aAd, h])]
  rfl

def jZ (r : List aE) (f : List aB) : List aM := f.map fun j => ⟨r, j.At, j.Net⟩

theorem put_eq {out : List aM} {r : List aE} {f : List aB} (hr : r.length ≤ 4398046510976) (hl : out.length + f.length ≤ 1099511627776) : vX out r f = some (out ++ jZ r f) := by
  unfold vX xG
  rw [yQ (l := f) (body := fun s : List aM × Int => nV r f (f.length : Nat) s.1 s.2) (fun o i => (o, i)) (fun o t => o ++ jZ r t) (fun o t => o.length + t.length ≤ 1099511627776) out ?_ ?_ hl]
  · rfl
  · intro i a t o ha hi
    left
    obtain ⟨d1, d2, d3, d4⟩ := idx ha (by have := (List.getElem?_eq_some_iff.1 ha).1; omega)
    simp only [List.length_cons] at hi
    refine ⟨o ++ [⟨r, a.At, a.Net⟩], ?_, by simp; omega, by simp [jZ]⟩
    show nV _ _ _ _ _ = _
    simp only [nV, d1, cond_true, aP d2, d3, d4, yB hr, Option.bind_some]
    exact aP (by simp only [List.length_cons, List.length_nil]; omega)
  · intro o _
    show nV _ _ _ _ _ = _
    simp only [nV, lC, cond_false]
    simp [jZ]

def wB (by1 : List aB → List aB × Int) : List (List aE × List aB) → List aM → List aM × Int
  | [], out => (out, 0)
  | g :: gs, out => if (by1 g.2).2 ≠ 0 then ([], (by1 g.2).2) else if 4096 < (out ++ jZ g.1 (by1 g.2).1).length then ([], 7) else wB by1 gs (out ++ jZ g.1 (by1 g.2).1)

theorem MF {by0 : List aB → Option (List aB × Int)} {by1 : List aB → List aB × Int} (c : List aM) : ∀ (gs : List (List aE × List aB)) (out : List aM), out.length ≤ 4096 → (∀ g ∈ gs, by0 g.2 = some (by1 g.2) ∧ (by1 g.2).1.length ≤ 1024 ∧ g.1.length ≤ 4398046510976) →
    ∃ x, itG (fun st r f => rnd (fun (s : (List aM) × Int × List aM) => mO by0 c s.1 s.2.1 s.2.2 r f) st) gs (.inl ([], 0, out)) = some x ∧ Sum.elim (fun s : (List aM) × Int × List aM => (s.2.2, (0 : Int))) (fun s => (s.1, s.2.1)) x = wB by1 gs out
  | [], out, _, _ => ⟨_, rfl, rfl⟩
  | g :: gs, out, ho, hg => by
    obtain ⟨h1, h2, h3⟩ := hg g (by simp)
    have hy : mO by0 c [] 0 out g.1 g.2 = some (if (by1 g.2).2 ≠ 0 then .inr ([], (by1 g.2).2, out) else if 4096 < (out ++ jZ g.1 (by1 g.2).1).length then .inr ([], 7, out ++ jZ g.1 (by1 g.2).1) else .inl ([], 0, out ++ jZ g.1 (by1 g.2).1)) := by
      unfold mO
      simp only [h1, Option.bind_some, put_eq h3 (show out.length + (by1 g.2).1.length ≤ 1099511627776 by omega)]
      by_cases e1 : (by1 g.2).2 = 0
      · by_cases e2 : 4096 < (out ++ jZ g.1 (by1 g.2).1).length
        · have e2' : (4096 : Int) < (((out ++ jZ g.1 (by1 g.2).1).length : Nat) : Int) := by omega
          simp only [e1, e2, e2', decide_true, Bool.not_true, cond_false, cond_true, ne_eq, not_true_eq_false, if_false, if_true]
        · have e2' : ¬ (4096 : Int) < (((out ++ jZ g.1 (by1 g.2).1).length : Nat) : Int) := by omega
          simp only [e1, e2, e2', decide_true, decide_false, Bool.not_true, cond_false, ne_eq, not_true_eq_false, if_false]
      · simp only [e1, decide_false, Bool.not_false, cond_true, ne_eq, not_false_eq_true, if_true]
    simp only [itG, rnd, hy, Option.bind_some, wB]
    by_cases e1 : (by1 g.2).2 ≠ 0
    · rw [if_pos e1, if_pos e1]; exact ⟨_, rfl, rfl⟩
    · rw [if_neg e1, if_neg e1]
      by_cases e2 : 4096 < (out ++ jZ g.1 (by1 g.2).1).length
      · rw [if_pos e2, if_pos e2]; exact ⟨_, rfl, rfl⟩
      · rw [if_neg e2, if_neg e2]
        exact MF c gs _ (by omega) (fun q hq => hg q (by simp [hq]))

theorem XE {l : List aM} (hl : okL l) {by0 : List aB → Option (List aB × Int)} {by1 : List aB → List aB × Int} (hb : ∀ g ∈ groups l, by0 g.2 = some (by1 g.2) ∧ (by1 g.2).1.length ≤ 1024 ∧ g.1.length ≤ 4398046510976) : rO l by0 = some (wB by1 (groups l) []) := by
  unfold rO
  simp only [nW, Option.bind_some, tP]
  obtain ⟨x, e1, e2⟩ := MF (by0 := by0) (by1 := by1) l (groups l) [] (by simp) hb
  rw [KA hl e1]
  cases x <;> simpa using e2

def flat (gs : List (List aE × List aB)) : List aM := gs.flatMap fun g => jZ g.1 g.2

theorem KO : ∀ (l : List aM) (r : List aE) (f : List aB), flat (gA r f l) = jZ r f ++ l
  | [], r, f => by simp [gA, flat]
  | e :: l, r, f => by
    unfold gA
    split
    · rename_i h
      rw [KO l r]
      simp [jZ, jE, ← h]
    · have := KO l e.Row [jE e]
      simp only [flat, List.flatMap_cons] at this ⊢
      rw [this]
      simp [jZ, jE]

theorem AY (l : List aM) : flat (groups l) = l := by
  cases l with
  | nil => rfl
  | cons e l => unfold groups; rw [KO]; simp [jZ, jE]

theorem PA {r : List aE} : ∀ {l : List aM} {f : List aB} {g : List aE × List aB}, g ∈ gA r f l → f ≠ [] → g.2 ≠ [] ∧ (g.1 = r ∨ ∃ e ∈ l, g.1 = e.Row)
  | [], f, g, h, hf => by simp only [gA, List.mem_singleton] at h; subst h; exact ⟨hf, .inl rfl⟩
  | e :: l, f, g, h, hf => by
    unfold gA at h
    split at h
    · obtain ⟨h1, h2⟩ := PA h (by simp)
      exact ⟨h1, h2.imp id fun ⟨x, hx, hx'⟩ => ⟨x, by simp [hx], hx'⟩⟩
    · rcases List.mem_cons.1 h with rfl | h
      · exact ⟨hf, .inl rfl⟩
      · obtain ⟨h1, h2⟩ := PA (r := e.Row) h (by simp)
        refine ⟨h1, .inr ?_⟩
        rcases h2 with h2 | ⟨x, hx, hx'⟩
        · exact ⟨e, by simp, h2⟩
        · exact ⟨x, by simp [hx], hx'⟩

theorem JK {l : List aM} {g : List aE × List aB} (h : g ∈ groups l) : g.2 ≠ [] ∧ ∃ e ∈ l, g.1 = e.Row := by
  cases l with
  | nil => simp [groups] at h
  | cons e l =>
    obtain ⟨h1, h2⟩ := PA h (by simp)
    refine ⟨h1, ?_⟩
    rcases h2 with h2 | ⟨x, hx, hx'⟩
    · exact ⟨e, by simp, h2⟩
    · exact ⟨x, by simp [hx], hx'⟩

end Go.Abs
namespace Go.Abs
open Go
def gR (l : List aM) (r : List aE) : List aB := (l.filter fun e => decide (e.Row = r)).map jE

theorem BL (a b : List aM) (r : List aE) : gR (a ++ b) r = gR a r ++ gR b r := by simp [gR]

theorem MY (q : List aE) (f : List aB) (r : List aE) : gR (jZ q f) r = if q = r then f else [] := by
  induction f with
  | nil => simp [gR, jZ]
  | cons j f ih =>
    have h1 : jZ q (j :: f) = [⟨q, j.At, j.Net⟩] ++ jZ q f := rfl
    rw [h1, BL, ih]
    by_cases h : q = r <;> simp [gR, jE, h]

def look : List (List aE × List aB) → List aE → List aB
  | [], _ => []
  | g :: gs, r => if g.1 = r then g.2 else look gs r

theorem qD (g : List aE × List aB) (gs : List (List aE × List aB)) (r : List aE) : look (g :: gs) r = if g.1 = r then g.2 else look gs r := rfl

abbrev ltG (a b : List aE × List aB) : Prop := qO a.1 b.1 < 0

abbrev rY (gs : List (List aE × List aB)) : Prop := gs.Pairwise ltG

abbrev Full (gs : List (List aE × List aB)) : Prop := ∀ g ∈ gs, g.2 ≠ []

theorem qT {a : List aE} : ¬ qO a a < 0 := by rw [(wN.eq a a).2 rfl]; omega

theorem vC : ∀ {gs : List (List aE × List aB)} {r : List aE}, (∀ g ∈ gs, g.1 ≠ r) → look gs r = []
  | [], _, _ => rfl
  | g :: gs, r, h => by
    rw [qD]
    rw [if_neg (h g (by simp))]
    exact vC fun q hq => h q (by simp [hq])

theorem yL (gs : List (List aE × List aB)) (r : List aE) : (look gs r = [] ∧ ∀ g ∈ gs, g.1 ≠ r) ∨ ∃ g ∈ gs, g.1 = r ∧ look gs r = g.2 := by
  induction gs with
  | nil => exact .inl ⟨rfl, by simp⟩
  | cons g gs ih =>
    rw [qD]
    by_cases h : g.1 = r
    · rw [if_pos h]; exact .inr ⟨g, by simp, h, rfl⟩
    · rw [if_neg h]
      rcases ih with ⟨h1, h2⟩ | ⟨q, hq, h1, h2⟩
      · refine .inl ⟨h1, fun q hq => ?_⟩
        rcases List.mem_cons.1 hq with rfl | hq
        · exact h
        · exact h2 q hq
      · exact .inr ⟨q, by simp [hq], h1, h2⟩

theorem wJ {gs : List (List aE × List aB)} (hs : rY gs) {g : List aE × List aB} (hg : g ∈ gs) : look gs g.1 = g.2 := by
  induction gs with
  | nil => simp at hg
  | cons q gs ih =>
    have hs' := List.pairwise_cons.1 hs
    rw [qD]
    rcases List.mem_cons.1 hg with rfl | hg
    · rw [if_pos rfl]
    · rw [if_neg (fun e => by have := hs'.1 g hg; simp only [ltG, e] at this; exact qT this)]
      exact ih hs'.2 hg

theorem tB (g : List aE × List aB) (gs : List (List aE × List aB)) : flat (g :: gs) = jZ g.1 g.2 ++ flat gs := rfl

theorem vK : ∀ {gs : List (List aE × List aB)}, rY gs → ∀ r, gR (flat gs) r = look gs r
  | [], _, r => rfl
  | g :: gs, hs, r => by
    have hs' := List.pairwise_cons.1 hs
    rw [tB, BL, MY, vK hs'.2, qD]
    by_cases h : g.1 = r
    · rw [if_pos h, if_pos h, vC, List.append_nil]
      intro q hq e
      have := hs'.1 q hq
      simp only [ltG, h, e] at this; exact qT this
    · rw [if_neg h, if_neg h]; rfl

theorem KK : ∀ {gs hs : List (List aE × List aB)}, rY gs → rY hs → Full gs → Full hs → (∀ r, look gs r = look hs r) → gs = hs
  | [], [], _, _, _, _, _ => rfl
  | [], h :: hs, _, _, _, fh, he => by
    have := he h.1
    simp only [qD, look, if_true] at this
    exact absurd this.symm (fh h (by simp))
  | g :: gs, [], _, _, fg, _, he => by
    have := he g.1
    simp only [qD, look, if_true] at this
    exact absurd this (fg g (by simp))
  | g :: gs, h :: hs, sg, sh, fg, fh, he => by
    have sg' := List.pairwise_cons.1 sg
    have sh' := List.pairwise_cons.1 sh
    by_cases e : g.1 = h.1
    · have h2 := he g.1
      simp only [look, if_true, if_pos e.symm] at h2
      have ht : gs = hs := KK sg'.2 sh'.2 (fun q hq => fg q (by simp [hq])) (fun q hq => fh q (by simp [hq])) fun r => by
        by_cases hr : g.1 = r
        · subst hr
          rw [vC (gs := gs), vC (gs := hs)]
          · intro q hq e'; have := sh'.1 q hq; simp only [ltG, ← e, e'] at this; exact qT this
          · intro q hq e'; have := sg'.1 q hq; simp only [ltG, e'] at this; exact qT this
        · have := he r
          simp only [look, if_neg hr, if_neg (fun x => hr (e.trans x))] at this
          exact this
      rw [ht]
      obtain ⟨g1, g2⟩ := g
      obtain ⟨h1, h3⟩ := h
      simp only at e h2
      rw [e, h2]
    · exfalso
      have hne : qO g.1 h.1 ≠ 0 := fun x => e ((wN.eq _ _).1 x)
      by_cases hlt : qO g.1 h.1 < 0
      · have h2 := he g.1
        rw [wJ sg (by simp), vC] at h2
        · exact fg g (by simp) h2
        · intro q hq e'
          rcases List.mem_cons.1 hq with rfl | hq
          · exact e e'.symm
          · have := wN.trans _ _ _ hlt (sh'.1 q hq)
            rw [e'] at this; exact qT this
      · have hlt' : qO h.1 g.1 < 0 := (wN.anti _ _).2 (by omega)
        have h2 := he h.1
        rw [wJ sh (by simp), vC] at h2
        · exact fh h (by simp) h2.symm
        · intro q hq e'
          rcases List.mem_cons.1 hq with rfl | hq
          · exact e e'
          · have := wN.trans _ _ _ hlt' (sg'.1 q hq)
            rw [e'] at this; exact qT this

theorem vA {p : List aB → Bool} : ∀ {gs : List (List aE × List aB)} {last : Option (List aE)}, uP p last gs = true ↔ (∀ g ∈ gs, sV g.1 = true ∧ p g.2 = true) ∧ rY gs ∧ (∀ q, last = some q → ∀ g ∈ gs, qO q g.1 < 0)
  | [], last => by simp [uP]
  | g :: gs, last => by
    unfold uP
    simp only [Bool.and_eq_true, vA (gs := gs), List.mem_cons, List.pairwise_cons]
    constructor
    · rintro ⟨⟨⟨h1, h2⟩, h3⟩, h4, h5, h6⟩
      refine ⟨?_, ⟨fun q hq => h6 _ rfl q hq, h5⟩, ?_⟩
      · rintro q (rfl | hq)
        · exact ⟨h1, h3⟩
        · exact h4 q hq
      · rintro q rfl x (rfl | hx)
        · simpa [ahd] using h2
        · simp only [ahd, decide_eq_true_eq] at h2
          exact wN.trans _ _ _ h2 (h6 _ rfl x hx)
    · rintro ⟨h1, ⟨h2, h3⟩, h4⟩
      refine ⟨⟨⟨(h1 g (.inl rfl)).1, ?_⟩, (h1 g (.inl rfl)).2⟩, fun q hq => h1 q (.inr hq), h3, ?_⟩
      · unfold ahd
        split
        · rfl
        · exact decide_eq_true (h4 _ rfl g (.inl rfl))
      · rintro q hq x hx
        cases hq
        exact h2 x hx

theorem GF (l : List aM) : Full (groups l) := fun _ hg => (JK hg).1

theorem oA {l : List aM} (h : lF l = true) : l.length ≤ 4096 ∧ (∀ g ∈ groups l, sV g.1 = true ∧ eW g.2 = true) ∧ rY (groups l) := by
  simp only [lF, Bool.and_eq_true, decide_eq_true_eq] at h
  obtain ⟨h1, h2, _⟩ := vA.1 h.2
  exact ⟨h.1, h1, h2⟩

theorem VX {l : List aM} (h : lF l = true) (r : List aE) : eW (look (groups l) r) = true := by
  rcases yL (groups l) r with ⟨h1, _⟩ | ⟨g, hg, _, h1⟩
  · rw [h1]; exact SY
  · rw [h1]; exact ((oA h).2.1 g hg).2

theorem aAJ {a b : List aM} (ha : lF a = true) (hb : lF b = true) (h : ∀ r, look (groups a) r = look (groups b) r) : a = b := by
  rw [← AY a, ← AY b, KK (oA ha).2.2 (oA hb).2.2 (GF a) (GF b) h]

theorem qG {l : List aM} (h : rY (groups l)) (r : List aE) : look (groups l) r = gR l r := by
  rw [← vK h, AY]

theorem TN (r : List aE) (f : List aB) (e : aM) (l : List aM) : gA r f (e :: l) = if e.Row = r then gA r (f ++ [jE e]) l else (r, f) :: gA e.Row [jE e] l := rfl

theorem QG (r : List aE) : ∀ (f2 f : List aB) (l : List aM), gA r f (jZ r f2 ++ l) = gA r (f ++ f2) l
  | [], f, l => by simp [jZ]
  | j :: f2, f, l => by
    show gA r f (⟨r, j.At, j.Net⟩ :: (jZ r f2 ++ l)) = _
    rw [TN, if_pos rfl, QG r f2]
    simp [jE]

theorem MB : ∀ {gs : List (List aE × List aB)}, rY gs → Full gs → groups (flat gs) = gs
  | [], _, _ => rfl
  | (r, f) :: gs, hs, hf => by
    have hs' := List.pairwise_cons.1 hs
    have hne := hf (r, f) (by simp)
    have ih := MB hs'.2 (fun g hg => hf g (by simp [hg]))
    cases f with
    | nil => exact absurd rfl hne
    | cons j f =>
      rw [tB]
      show gA r [jE ⟨r, j.At, j.Net⟩] (jZ r f ++ flat gs) = _
      rw [QG]
      have key : ∀ (F : List aB), gA r F (flat gs) = (r, F) :: groups (flat gs) := by
        intro F
        cases gs with
        | nil => rfl
        | cons g gs =>
          obtain ⟨q, f'⟩ := g
          have hq := hf (q, f') (by simp)
          cases f' with
          | nil => exact absurd rfl hq
          | cons j' f' =>
            have hqr : q ≠ r := fun e => by
              have := hs'.1 (q, j' :: f') (by simp)
              simp only [ltG, e] at this; exact qT this
            rw [tB]
            show gA r F (⟨q, j'.At, j'.Net⟩ :: (jZ q f' ++ flat gs)) = _
            rw [gA, if_neg hqr]
            rfl
      rw [key, ih]
      rfl

def wP (gs : List (List aE × List aB)) : List (List aE × List aB) := gs.filter fun g => !g.2.isEmpty

theorem AK : ∀ (gs : List (List aE × List aB)), flat (wP gs) = flat gs
  | [] => rfl
  | (r, []) :: gs => by
    have : wP ((r, []) :: gs) = wP gs := rfl
    rw [this, AK gs, tB]; rfl
  | (r, j :: f) :: gs => by
    have : wP ((r, j :: f) :: gs) = (r, j :: f) :: wP gs := rfl
    rw [this, tB, tB, AK gs]

theorem DD (gs : List (List aE × List aB)) : Full (wP gs) := by
  intro g hg
  have := (List.mem_filter.1 hg).2
  intro h; rw [h] at this; simp at this

theorem vT {gs : List (List aE × List aB)} (hs : rY gs) : groups (flat gs) = wP gs := by
  rw [← AK]
  exact MB (hs.filter _) (DD gs)

theorem MH {gs : List (List aE × List aB)} (hs : rY gs) (r : List aE) : look (groups (flat gs)) r = look gs r := by
  have h1 := vK (gs := wP gs) (hs.filter _) r
  rw [vT hs, ← h1, ← vK hs, AK]

theorem XM {gs : List (List aE × List aB)} (hs : rY gs) (hm : ∀ g ∈ gs, sV g.1 = true ∧ eW g.2 = true) (hl : (flat gs).length ≤ 4096) : lF (flat gs) = true := by
  simp only [lF, Bool.and_eq_true, decide_eq_true_eq]
  refine ⟨hl, vA.2 ?_⟩
  rw [vT hs]
  exact ⟨fun g hg => hm g (List.mem_filter.1 hg).1, hs.filter _, by simp⟩

def wO (by1 : List aB → List aB × Int) (gs : List (List aE × List aB)) : List (List aE × List aB) := gs.map fun g => (g.1, (by1 g.2).1)

theorem CH {by1 : List aB → List aB × Int} {gs : List (List aE × List aB)} (hs : rY gs) : rY (wO by1 gs) := by
  rw [rY, wO, List.pairwise_map]; exact hs

theorem AJ {by1 : List aB → List aB × Int} (h0 : (by1 []).1 = []) : ∀ (gs : List (List aE × List aB)) (r : List aE), look (wO by1 gs) r = (by1 (look gs r)).1
  | [], r => h0.symm
  | g :: gs, r => by
    show look ((g.1, (by1 g.2).1) :: wO by1 gs) r = _
    rw [qD, qD]
    by_cases h : g.1 = r
    · rw [if_pos h, if_pos h]
    · rw [if_neg h, if_neg h]; exact AJ h0 gs r

theorem TF {by1 : List aB → List aB × Int} : ∀ {gs : List (List aE × List aB)} {out : List aM}, out.length ≤ 4096 → (wB by1 gs out).2 = 0 → (∀ g ∈ gs, (by1 g.2).2 = 0) ∧ (wB by1 gs out).1 = out ++ flat (wO by1 gs) ∧ (wB by1 gs out).1.length ≤ 4096
  | [], out, ho, _ => by simp [wB, wO, flat, ho]
  | g :: gs, out, ho, h => by
    unfold wB at h ⊢
    by_cases e1 : (by1 g.2).2 = 0
    · rw [if_neg (by simp [e1])] at h ⊢
      by_cases e2 : 4096 < (out ++ jZ g.1 (by1 g.2).1).length
      · rw [if_pos e2] at h; simp at h
      · rw [if_neg e2] at h ⊢
        obtain ⟨h1, h2, h3⟩ := TF (by omega) h
        refine ⟨?_, ?_, h3⟩
        · intro q hq
          rcases List.mem_cons.1 hq with rfl | hq
          · exact e1
          · exact h1 q hq
        · rw [h2]; simp [wO, tB]
    · rw [if_pos e1] at h; exact absurd h e1

theorem QW {by1 : List aB → List aB × Int} : ∀ {gs : List (List aE × List aB)} {out : List aM}, (wB by1 gs out).2 ≠ 0 → (wB by1 gs out).1 = []
  | [], out, h => by simp [wB] at h
  | g :: gs, out, h => by
    unfold wB at h ⊢
    split
    · rfl
    · rename_i e1
      rw [if_neg e1] at h
      split
      · rfl
      · rename_i e2
        rw [if_neg e2] at h
        exact QW h

def uW (by1 : List aB → List aB × Int) (l : List aM) : List aM × Int := if lF l then wB by1 (groups l) [] else ([], 2)

theorem zZ {l : List aM} (hl : okL l) {g : List aE × List aB} (hg : g ∈ groups l) : g.1.length ≤ 4398046510976 := by
  obtain ⟨_, e, he, h⟩ := JK hg
  rw [h]; exact hl.2 e he

theorem all_eq {l : List aM} (hl : okL l) {by0 : List aB → Option (List aB × Int)} {by1 : List aB → List aB × Int} (hb : ∀ f, by0 f = some (by1 f)) (h1 : ∀ f, (by1 f).1.length ≤ 1024) : vF l by0 = some (uW by1 l) := by
  unfold vF uW
  rw [JZ hl]
  cases h : lF l
  · rfl
  · simp only [Option.bind_some, Bool.not_true, cond_false, if_true]
    rw [XE hl (fun g hg => ⟨hb g.2, h1 g.2, zZ hl hg⟩)]
    rfl

theorem yS {by1 : List aB → List aB × Int} {l : List aM} (h : (uW by1 l).2 = 0) : lF l = true ∧ (∀ g ∈ groups l, (by1 g.2).2 = 0) ∧ (uW by1 l).1 = flat (wO by1 (groups l)) ∧ (uW by1 l).1.length ≤ 4096 := by
  unfold uW at h ⊢
  cases hm : lF l
  · rw [hm] at h; simp at h
  · rw [hm] at h
    simp only [if_true] at h ⊢
    obtain ⟨h1, h2, h3⟩ := TF (by simp) h
    exact ⟨trivial, h1, by simpa using h2, h3⟩

theorem MU {by1 : List aB → List aB × Int} (h0 : (by1 []).1 = []) {l : List aM} (h : (uW by1 l).2 = 0) (r : List aE) : look (groups (uW by1 l).1) r = (by1 (look (groups l) r)).1 := by
  obtain ⟨h1, h2, h3, _⟩ := yS h
  rw [h3, MH (CH (oA h1).2.2), AJ h0]

theorem aAh {by1 : List aB → List aB × Int} (h0 : (by1 []).2 = 0) {l : List aM} (h : (uW by1 l).2 = 0) (r : List aE) : (by1 (look (groups l) r)).2 = 0 := by
  obtain ⟨h1, h2, _, _⟩ := yS h
  rcases yL (groups l) r with ⟨e, _⟩ | ⟨g, hg, _, e⟩
  · rw [e]; exact h0
  · rw [e]; exact h2 g hg

theorem SQ {f g : List aM} (hl : okL f) : sU f g = some (decide (f = g)) := by
  unfold sU
  by_cases he : f.length = g.length
  · rw [DJ he, cond_false]
    unfold uO
    have := NM (f := f) (g := g) (body := fun s => oR f g s) he ?_ ?_ f.length 0 rfl (Nat.zero_le _)
    · simp only [Int.natCast_zero, List.drop_zero] at this
      rw [this]
      by_cases h : f = g <;> simp [h, rF]
    · intro i x y hx hy
      have hll := hl.1
      obtain ⟨d1, d2, d3, d4⟩ := idx hx (by omega)
      obtain ⟨_, e2, e3, _⟩ := idx hy (by omega)
      have hr := hl.2 x (List.mem_of_getElem? hx)
      simp only [oR, d1, cond_true, aP d2, aP e2, d3, e3, d4, cW]
      rw [aP (fun _ => d2), aP (fun _ => e2), aP (fun _ => d2), aP (fun _ => e2), CV x.Row y.Row (by omega)]
      obtain ⟨x1, x2, x3⟩ := x
      obtain ⟨y1, y2, y3⟩ := y
      by_cases h1 : x2 = y2 <;> by_cases h2 : x3 = y3 <;> by_cases h3 : x1 = y1 <;> simp [h1, h2, h3]
    · simp only [oR, lC, cond_false]
  · rw [RL he, cond_true]
    have : f ≠ g := fun h => he (by rw [h])
    simp [this]

theorem xS : ∀ (l : List aM) (r : List aE) (f : List aB), (gA r f l).length ≤ l.length + 1
  | [], _, _ => by simp [gA]
  | e :: l, r, f => by
    rw [TN]
    split
    · have := xS l r (f ++ [jE e]); simp only [List.length_cons]; omega
    · have := xS l e.Row [jE e]; simp only [List.length_cons]; omega

theorem IP (l : List aM) : (groups l).length ≤ l.length := by
  cases l with
  | nil => simp [groups]
  | cons e l => exact xS l e.Row [jE e]

end Go.Abs
namespace Go.Abs
open Go
def vL : aE := ⟨1, 1, ByteArray.empty⟩

end Go.Abs
namespace Go.Abs
open Go
theorem TW : okL [] := ⟨by simp, by simp⟩

theorem aAI {gs : List (List aE × List aB)} (h : ∀ g ∈ gs, g.1.length ≤ 4398046510976) (hl : (flat gs).length ≤ 4096) : okL (flat gs) := by
  refine ⟨by omega, fun e he => ?_⟩
  obtain ⟨g, hg, h1⟩ := List.mem_flatMap.1 he
  obtain ⟨j, _, rfl⟩ := List.mem_map.1 h1
  exact h g hg

theorem aAy {by1 : List aB → List aB × Int} {l : List aM} (hl : okL l) : okL (uW by1 l).1 := by
  by_cases h : (uW by1 l).2 = 0
  · obtain ⟨_, _, h3, h4⟩ := yS h
    rw [h3] at h4 ⊢
    refine aAI (fun g hg => ?_) h4
    obtain ⟨q, hq, rfl⟩ := List.mem_map.1 hg
    have := zZ hl hq
    exact this
  · unfold uW at h ⊢
    split
    · rename_i hm
      rw [if_pos hm] at h
      rw [QW h]; exact TW
    · exact TW

def oH (l : List aM) (t : Int) : List aM × Int := uW (fun f => ahead f t) l

theorem VH {l : List aM} (hl : okL l) (t : Int) : okL (oH l t).1 := aAy hl

theorem MD {l : List aM} (hl : okL l) (t : Int) : pZ l t = some (oH l t) := by
  unfold pZ oH
  rw [all_eq hl (by0 := fun y0 => oC y0 t) (by1 := fun f => ahead f t) (fun f => by unfold oC; rw [ZX]; rfl) (fun f => YK f t)]
  rfl

theorem MV {t : Int} (ht0 : 0 ≤ t) : ahead [] t = ([], 0) := by
  unfold ahead
  rw [if_pos SY]
  split
  · rfl
  · rfl

end Go.Abs
namespace Go.Abs
open Go
theorem GA {σ : Type} {y : σ → List aE → List aB → Option (σ × Bool)} (c : List aM) : ∀ (gs : List (List aE × List aB)) (s s' : σ), itG y gs s = some s' →
    ∃ x, itG (fun st t10 t11 => rnd (fun (s : σ) => kL y c s t10 t11) st) gs (.inl s) = some x ∧ Sum.elim id id x = s'
  | [], s, s', h => by simp only [itG, Option.some.injEq] at h; exact ⟨_, rfl, h⟩
  | g :: gs, s, s', h => by
    simp only [itG] at h
    obtain ⟨z, hz, h⟩ := aV h
    have hl : kL y c s g.1 g.2 = some (if z.2 then .inl z.1 else .inr z.1) := by
      unfold kL
      rw [hz]
      obtain ⟨z1, z2⟩ := z
      cases z2 <;> rfl
    cases h2 : z.2
    · rw [h2] at h hl
      simp only [Bool.false_eq_true, if_false, Option.some.injEq] at h hl
      refine ⟨.inr z.1, ?_, h⟩
      simp [itG, rnd, hl]
    · rw [h2] at h hl
      simp only [if_true] at h hl
      obtain ⟨x, h3, h4⟩ := GA c gs z.1 s' h
      refine ⟨x, ?_, h4⟩
      simp only [itG, rnd, hl, Option.bind_some, Sum.isLeft_inl, if_true]
      exact h3

theorem VO {σ : Type} {y : σ → List aE → List aB → Option (σ × Bool)} {l : List aM} (hl : okL l) {s s' : σ} (h : itG y (if lF l then groups l else []) s = some s') : nP y l s = some s' := by
  unfold nP
  rw [JZ hl]
  cases hm : lF l
  · rw [hm] at h
    simp only [Bool.false_eq_true, if_false, itG] at h
    simpa using h
  · rw [hm] at h
    simp only [if_true] at h
    simp only [Option.bind_some, Bool.not_true, cond_false, nW, oY]
    obtain ⟨x, h1, h2⟩ := GA l (groups l) s s' h
    rw [KA hl h1]
    cases x <;> simpa using h2

theorem yK {l : List aM} (hm : lF l = true) (r : List aE) : eW (gR l r) = true := by
  rw [← qG (oA hm).2.2]; exact VX hm r

end Go.Abs
namespace Go.Abs
open Go
theorem TK {c : Int} : ∀ {l : List Int} {m : Int}, c ≤ l.foldl mn m ↔ c ≤ m ∧ ∀ x ∈ l, c ≤ x
  | [], m => by simp
  | a :: l, m => by
    rw [List.foldl_cons, TK]
    unfold mn
    constructor
    · rintro ⟨h1, h2⟩
      have h3 : c ≤ m ∧ c ≤ a := by split at h1 <;> omega
      refine ⟨h3.1, fun x hx => ?_⟩
      rcases List.mem_cons.1 hx with rfl | hx
      · exact h3.2
      · exact h2 x hx
    · rintro ⟨h1, h2⟩
      have := h2 a (by simp)
      exact ⟨by split <;> omega, fun x hx => h2 x (by simp [hx])⟩

theorem ML {t : Int} : ∀ {f : List aB} {l v : Int}, nH l f → v + val f t = v ∨ v + val f t ∈ parts v f
  | [], l, v, _ => .inl (by simp [val])
  | j :: r, l, v, h => by
    unfold parts
    rw [gJ]
    by_cases e : j.At ≤ t
    · rw [if_pos e]
      right
      rcases ML (t := t) (v := v + j.Net) h.2 with h1 | h1
      · rw [show v + (j.Net + val r t) = v + j.Net by omega]; simp
      · rw [show v + (j.Net + val r t) = v + j.Net + val r t by omega]; exact List.mem_cons_of_mem _ h1
    · left
      rw [if_neg e, h.2.zC (by omega)]; omega

theorem LD {f : List aB} (hf : eW f = true) : 0 ≤ BB f ↔ ∀ t, 0 ≤ val f t := by
  have hr := (lP.1 hf).2
  unfold BB
  rw [TK]
  constructor
  · rintro ⟨_, h2⟩ t
    rcases ML (t := t) (v := 0) hr with h | h
    · omega
    · rw [parts_eq hr] at h
      obtain ⟨j, hj, h⟩ := List.mem_map.1 h
      have := h2 _ (List.mem_map.2 ⟨j, hj, rfl⟩)
      omega
  · intro h
    refine ⟨h _, fun x hx => ?_⟩
    obtain ⟨j, _, rfl⟩ := List.mem_map.1 hx
    exact h _

theorem HU {l : List aM} : uH l = true ↔ lF l = true ∧ ∀ r t, 0 ≤ val (gR l r) t := by
  constructor
  · intro h
    unfold uH at h
    rw [Bool.and_eq_true, vA] at h
    obtain ⟨h1, h2, h3, _⟩ := h
    have hm : lF l = true := by
      unfold lF
      rw [Bool.and_eq_true]
      exact ⟨h1, vA.2 ⟨fun g hg => ⟨(h2 g hg).1, by have := (h2 g hg).2; unfold KL at this; rw [Bool.and_eq_true] at this; exact this.1⟩, h3, fun q hq => by cases hq⟩⟩
    refine ⟨hm, fun r => ?_⟩
    rw [← qG h3]
    rcases yL (groups l) r with ⟨e, _⟩ | ⟨g, hg, _, e⟩
    · rw [e]; intro t; simp [val]
    · rw [e]
      have := (h2 g hg).2
      unfold KL at this
      rw [Bool.and_eq_true, decide_eq_true_eq] at this
      exact (LD this.1).1 this.2
  · rintro ⟨hm, h⟩
    obtain ⟨h1, h2, h3⟩ := oA hm
    unfold uH
    rw [Bool.and_eq_true]
    refine ⟨by simpa using h1, vA.2 ⟨fun g hg => ⟨(h2 g hg).1, ?_⟩, h3, fun q hq => by cases hq⟩⟩
    unfold KL
    rw [Bool.and_eq_true, decide_eq_true_eq]
    refine ⟨(h2 g hg).2, (LD (h2 g hg).2).2 ?_⟩
    have : g.2 = gR l g.1 := by rw [← qG h3, wJ h3 hg]
    rw [this]; exact h g.1

end Go.Abs
namespace Go.Abs
open Go
abbrev gN (d : List Int) (i : Nat) : Int := d.getD i default

def swp (d : List Int) (i j : Nat) : List Int := (d.set i (gN d j)).set j (gN d i)

theorem WG {d : List Int} {i k : Nat} {x : Int} (h : i < d.length) : gN (d.set i x) k = if k = i then x else gN d k := by
  simp only [gN, List.getD_eq_getElem?_getD, List.getElem?_set]
  by_cases e : i = k
  · subst e; simp [h]
  · rw [if_neg e, if_neg (fun h => e h.symm)]

theorem gT (d : List Int) (i j : Nat) : (swp d i j).length = d.length := by simp [swp]

theorem rT {d : List Int} {i j : Nat} (hi : i < d.length) (hj : j < d.length) (k : Nat) : gN (swp d i j) k = if k = j then gN d i else if k = i then gN d j else gN d k := by
  unfold swp
  rw [WG (by simpa using hj), WG hi]

theorem aAT {d : List Int} {i j : Nat} (hi : i < d.length) (hj : j < d.length) : (swp d i j).Perm d := by
  have h1 : gN d i = d[i] := by simp [gN, List.getD_eq_getElem?_getD, List.getElem?_eq_getElem hi]
  have h2 : gN d j = d[j] := by simp [gN, List.getD_eq_getElem?_getD, List.getElem?_eq_getElem hj]
  unfold swp
  rw [h1, h2]
  exact List.set_set_perm hi hj

structure Rel (a b : Nat) (d d' : List Int) : Prop where
  len : d'.length = d.length
  perm : d'.Perm d
  out : ∀ k, k < a ∨ b ≤ k → gN d' k = gN d k
  src : ∀ k, a ≤ k → k < b → ∃ k', a ≤ k' ∧ k' < b ∧ gN d' k = gN d k'

theorem Rel.refl (a b : Nat) (d : List Int) : Rel a b d d := ⟨rfl, .refl _, fun _ _ => rfl, fun k h1 h2 => ⟨k, h1, h2, rfl⟩⟩

theorem Rel.trans {a b : Nat} {d d' d'' : List Int} (h : Rel a b d d') (h' : Rel a b d' d'') : Rel a b d d'' :=
  ⟨h'.len.trans h.len, h'.perm.trans h.perm, fun k hk => (h'.out k hk).trans (h.out k hk), fun k h1 h2 => by
    obtain ⟨k1, a1, a2, a3⟩ := h'.src k h1 h2
    obtain ⟨k2, b1, b2, b3⟩ := h.src k1 a1 a2
    exact ⟨k2, b1, b2, a3.trans b3⟩⟩

theorem Rel.mono {a b a' b' : Nat} {d d' : List Int} (h : Rel a b d d') (h1 : a' ≤ a) (h2 : b ≤ b') : Rel a' b' d d' :=
  ⟨h.len, h.perm, fun k hk => h.out k (by omega), fun k k1 k2 => by
    by_cases hk : a ≤ k ∧ k < b
    · obtain ⟨k', c1, c2, c3⟩ := h.src k hk.1 hk.2
      exact ⟨k', by omega, by omega, c3⟩
    · exact ⟨k, k1, k2, h.out k (by omega)⟩⟩

theorem Rel.swp {a b : Nat} {d : List Int} {i j : Nat} (hi : i < d.length) (hj : j < d.length) (h1 : a ≤ i ∧ i < b) (h2 : a ≤ j ∧ j < b) : Rel a b d (swp d i j) :=
  ⟨gT .., aAT hi hj, fun k hk => by rw [rT hi hj, if_neg (by omega), if_neg (by omega)], fun k k1 k2 => by
    rw [rT hi hj]
    split
    · exact ⟨i, h1.1, h1.2, rfl⟩
    · split
      · exact ⟨j, h2.1, h2.2, rfl⟩
      · exact ⟨k, k1, k2, rfl⟩⟩

theorem Rel.all {a b : Nat} {d d' : List Int} (h : Rel a b d d') {p : Int → Prop} (hp : ∀ k, a ≤ k → k < b → p (gN d k)) : ∀ k, a ≤ k → k < b → p (gN d' k) := fun k k1 k2 => by
  obtain ⟨k', c1, c2, c3⟩ := h.src k k1 k2
  rw [c3]; exact hp k' c1 c2

def oO (a b : Nat) (d : List Int) : Prop := ∀ p q, a ≤ p → p ≤ q → q < b → gN d p ≤ gN d q

theorem qH (a b : Int) : cY a b = some (decide (a < b)) := by simp [cY, kX, cW]

theorem wrN {x : Int} {n : Nat} (h : x = (n : Int)) (hn : n ≤ 9000000000000000000) : IntKind.i64.wrap x = (n : Int) := by
  rw [eA (by omega) (by omega), h]

theorem asN {i n : Nat} (h : i < n) : 0 ≤ (i : Int) ∧ (i : Int) < ((n : Nat) : Int) := by omega

theorem QV {a b i : Int} {d : List Int} {lo j : Nat} (ha : a = (lo : Nat)) (h1 : lo ≤ j) (hj : j < d.length) (hl : d.length < 4611686018427387904) :
    eP a b i d (j : Nat) = if lo < j ∧ gN d j < gN d (j - 1) then some (.inl (swp d j (j - 1), ((j - 1 : Nat) : Int))) else some (.inr d) := by
  subst ha
  unfold eP
  by_cases h : lo < j
  · have e1 : IntKind.i64.wrap ((j : Int) - 1) = ((j - 1 : Nat) : Int) := wrN (by omega) (by omega)
    have d1 : decide (((lo : Nat) : Int) < ((j : Nat) : Int)) = true := by simp; omega
    rw [e1, d1]
    simp only [true_and, Int.toNat_natCast, qH, cW, cond_true, Option.bind_some, Bool.true_and]
    rw [aP fun _ => asN hj, aP fun _ => asN (by omega)]
    by_cases h2 : gN d j < gN d (j - 1)
    · rw [if_pos ⟨h, h2⟩]
      simp only [gN] at h2
      simp only [h2, decide_true, cond_true]
      rw [aP (asN (by omega)), aP (asN hj), aP (asN hj), aP (asN (by omega))]
      rfl
    · rw [if_neg (fun hh => h2 hh.2)]
      simp only [gN] at h2
      simp only [h2, decide_false, cond_false]
  · have d1 : decide (((lo : Nat) : Int) < ((j : Nat) : Int)) = false := by simp; omega
    rw [if_neg (fun hh => h hh.1), d1]
    simp only [Bool.false_eq_true, false_implies, cW, cond_false, Option.bind_some, Bool.false_and]
    rw [aP trivial, aP trivial]

structure DM (a j i : Nat) (d : List Int) : Prop where
  oth : ∀ p q, a ≤ p → p ≤ q → q ≤ i → p ≠ j → q ≠ j → gN d p ≤ gN d q
  up : ∀ q, j < q → q ≤ i → gN d j ≤ gN d q

theorem DM.done {a j i : Nat} {d : List Int} (h : DM a j i d) (hj : a ≤ j) (hn : ¬ (a < j ∧ gN d j < gN d (j - 1))) : oO a (i + 1) d := by
  intro p q h1 h2 h3
  by_cases hp : p = j
  · by_cases hq : q = j
    · subst hp; subst hq; exact Int.le_refl _
    · subst hp; exact h.up q (by omega) (by omega)
  · by_cases hq : q = j
    · subst hq
      have h4 : ¬ gN d q < gN d (q - 1) := fun hh => hn ⟨by omega, hh⟩
      have := h.oth p (q - 1) h1 (by omega) (by omega) hp (by omega)
      omega
    · exact h.oth p q h1 h2 (by omega) hp hq

theorem DM.next {a j i : Nat} {d : List Int} (h : DM a j i d) (hj : a < j) (hji : j ≤ i) (hi : i < d.length) (hlt : gN d j < gN d (j - 1)) : DM a (j - 1) i (swp d j (j - 1)) := by
  have g := rT (d := d) (i := j) (j := j - 1) (by omega) (by omega)
  refine ⟨fun p q h1 h2 h3 hp hq => ?_, fun q h1 h2 => ?_⟩
  · rw [g, g, if_neg hp, if_neg hq]
    by_cases hpj : p = j
    · rw [if_pos hpj]
      by_cases hqj : q = j
      · rw [if_pos hqj]; exact Int.le_refl _
      · rw [if_neg hqj]; exact h.oth (j - 1) q (by omega) (by omega) h3 (by omega) hqj
    · rw [if_neg hpj]
      by_cases hqj : q = j
      · rw [if_pos hqj]; exact h.oth p (j - 1) h1 (by omega) (by omega) hpj (by omega)
      · rw [if_neg hqj]; exact h.oth p q h1 h2 h3 hpj hqj
  · rw [g, g, if_pos rfl, if_neg (by omega)]
    by_cases hqj : q = j
    · rw [if_pos hqj]; omega
    · rw [if_neg hqj]; exact h.up q (by omega) h2

theorem aCf {a b i : Int} {lo hi : Nat} (ha : a = (lo : Nat)) : ∀ (j : Nat) (d : List Int), lo ≤ j → j ≤ hi → hi < d.length → d.length < 4611686018427387904 → DM lo j hi d →
    ∃ d', lp (fun s : List Int × Int => eP a b i s.1 s.2) (d, (j : Int)) = some d' ∧ Rel lo (hi + 1) d d' ∧ oO lo (hi + 1) d' := by
  intro j
  induction j with
  | zero =>
    intro d h1 h2 h3 h4 h5
    have hs := QV (a := a) (b := b) (i := i) ha h1 (by omega) h4 (d := d)
    rw [if_neg (by omega)] at hs
    exact ⟨d, cU hs, Rel.refl .., h5.done h1 (by omega)⟩
  | succ j ih =>
    intro d h1 h2 h3 h4 h5
    have hs := QV (a := a) (b := b) (i := i) ha h1 (by omega) h4 (d := d)
    by_cases h : lo < j + 1 ∧ gN d (j + 1) < gN d (j + 1 - 1)
    · rw [if_pos h] at hs
      obtain ⟨d', e, r, s⟩ := ih (swp d (j + 1) (j + 1 - 1)) (by omega) (by omega) (by rw [gT]; omega) (by rw [gT]; omega) (h5.next h.1 h2 h3 h.2)
      exact ⟨d', (gH hs).trans e, (Rel.swp (by omega) (by omega) (by omega) (by omega)).trans r, s⟩
    · rw [if_neg h] at hs
      exact ⟨d, cU hs, Rel.refl .., h5.done h1 h⟩

theorem SB {a b : Int} {lo hi : Nat} (ha : a = (lo : Nat)) (hb : b = (hi : Nat)) : ∀ (n i : Nat) (d : List Int), hi - i = n → lo < i → hi ≤ d.length → d.length < 4611686018427387904 → oO lo i d → (i ≤ hi ∨ hi ≤ i) →
    ∃ d', lp (fun s : List Int × Int => cZ a b s.1 s.2) (d, (i : Int)) = some d' ∧ Rel lo hi d d' ∧ oO lo hi d' := by
  intro n
  induction n with
  | zero =>
    intro i d h1 h2 h3 h4 h5 _
    refine ⟨d, cU ?_, Rel.refl .., fun p q p1 p2 p3 => h5 p q p1 p2 (by omega)⟩
    show cZ _ _ _ _ = _
    have : decide (((i : Nat) : Int) < b) = false := by simp; omega
    simp only [cZ, this, cond_false]
  | succ n ih =>
    intro i d h1 h2 h3 h4 h5 _
    obtain ⟨d1, e, r, s⟩ := aCf (a := a) (b := b) (i := (i : Int)) (hi := i) ha i d (by omega) (Nat.le_refl _) (by omega) h4 ⟨fun p q p1 p2 p3 p4 p5 => h5 p q p1 p2 (by omega), fun q q1 q2 => by omega⟩
    obtain ⟨d2, e2, r2, s2⟩ := ih (i + 1) d1 (by omega) (by omega) (by rw [r.len]; exact h3) (by rw [r.len]; exact h4) s (by omega)
    refine ⟨d2, ?_, (r.mono (Nat.le_refl _) (by omega)).trans r2, s2⟩
    rw [gH (s' := (d1, ((i + 1 : Nat) : Int))) ?_, e2]
    show cZ _ _ _ _ = _
    have : decide (((i : Nat) : Int) < b) = true := by simp; omega
    simp only [cZ, this, cond_true, jB]
    rw [e]
    simp only [Option.bind_some, fY]
    rw [wrN (n := i + 1) (by omega) (by omega)]

theorem GY (lo : Nat) (d : List Int) : oO lo (lo + 1) d := fun p q p1 p2 p3 => by
  have : p = q := by omega
  subst this
  exact Int.le_refl _

theorem aAr {lo hi : Nat} {d : List Int} (h3 : hi ≤ d.length) (h4 : d.length < 4611686018427387904) (h0 : lo ≤ hi) : ∃ d', gM d (lo : Int) (hi : Int) = some d' ∧ Rel lo hi d d' ∧ oO lo hi d' := by
  unfold gM jD
  obtain ⟨d', e, r, s⟩ := SB (a := (lo : Int)) (b := (hi : Int)) (lo := lo) (hi := hi) rfl rfl (hi - (lo + 1)) (lo + 1) d rfl (by omega) h3 h4 (GY lo d) (by omega)
  rw [wrN (n := lo + 1) (by omega) (by omega), e]
  exact ⟨d', rfl, r, s⟩

theorem aB7 {lo hi : Nat} : ∀ (n i j : Nat) (d : List Int), j + 1 - i = n → lo ≤ i → j + 1 ≤ hi ∨ j ≤ i → hi ≤ d.length → d.length < 4611686018427387904 → i < 4611686018427387904 → j < 4611686018427387904 →
    ∃ d', lp (fun s : List Int × Int × Int => dB s.1 s.2.1 s.2.2) (d, (i : Int), (j : Int)) = some d' ∧ Rel lo hi d d' := by
  intro n
  induction n using Nat.strongRecOn with
  | ind n ih =>
    intro i j d h1 h2 h3 h4 h5 h6 h7
    by_cases h : i < j
    · obtain ⟨d', e, r⟩ := ih (j - 1 + 1 - (i + 1)) (by omega) (i + 1) (j - 1) (swp d i j) rfl (by omega) (by omega) (by rw [gT]; exact h4) (by rw [gT]; exact h5) (by omega) (by omega)
      refine ⟨d', ?_, (Rel.swp (by omega) (by omega) (by omega) (by omega)).trans r⟩
      rw [gH (s' := (swp d i j, ((i + 1 : Nat) : Int), ((j - 1 : Nat) : Int))) ?_, e]
      show dB _ _ _ = _
      have : decide (((i : Nat) : Int) < ((j : Nat) : Int)) = true := by simp; omega
      simp only [dB, this, cond_true, Int.toNat_natCast]
      rw [aP (asN (by omega)), aP (asN (by omega)), aP (asN (by omega)), aP (asN (by omega)), wrN (n := i + 1) (by omega) (by omega), wrN (n := j - 1) (by omega) (by omega)]
      rfl
    · refine ⟨d, cU ?_, Rel.refl ..⟩
      show dB _ _ _ = _
      have : decide (((i : Nat) : Int) < ((j : Nat) : Int)) = false := by simp; omega
      simp only [dB, this, cond_false]

theorem XI {lo hi : Nat} {d : List Int} (h0 : lo < hi) (h3 : hi ≤ d.length) (h4 : d.length < 4611686018427387904) : ∃ d', gY d (lo : Int) (hi : Int) = some d' ∧ Rel lo hi d d' := by
  unfold gY jG
  obtain ⟨d', e, r⟩ := aB7 (lo := lo) (hi := hi) (hi - 1 + 1 - lo) lo (hi - 1) d rfl (Nat.le_refl _) (by omega) h3 h4 (by omega) (by omega)
  rw [wrN (n := hi - 1) (by omega) (by omega), e]
  exact ⟨d', rfl, r⟩

end Go.Abs
namespace Go.Abs
open Go
def vP (f hi : Nat) (d : List Int) (r : Nat) : Nat := if 2 * r + 2 < hi ∧ gN d (f + (2 * r + 1)) < gN d (f + (2 * r + 2)) then 2 * r + 2 else 2 * r + 1

theorem KR {f hi r c : Nat} {d : List Int} (hf : f + hi ≤ d.length) (hr : r < hi) (hc : c < hi) (hl : d.length < 2305843009213693951) :
    gE d (hi : Nat) (f : Nat) (r : Nat) (c : Nat) = if gN d (f + r) < gN d (f + c) then some (.inl (swp d (f + r) (f + c), (c : Int))) else some (.inr (.inr d)) := by
  unfold gE
  have e1 : IntKind.i64.wrap ((f : Int) + (r : Int)) = ((f + r : Nat) : Int) := wrN (by omega) (by omega)
  have e2 : IntKind.i64.wrap ((f : Int) + (c : Int)) = ((f + c : Nat) : Int) := wrN (by omega) (by omega)
  rw [e1, e2]
  simp only [Int.toNat_natCast, qH, Option.bind_some]
  rw [aP (asN (by omega)), aP (asN (by omega))]
  by_cases h : gN d (f + r) < gN d (f + c)
  · rw [if_pos h]
    simp only [gN] at h
    simp only [h, decide_true, Bool.not_true, cond_false]
    rw [aP (asN (by omega)), aP (asN (by omega)), aP (asN (by omega)), aP (asN (by omega))]
    rfl
  · rw [if_neg h]
    simp only [gN] at h
    simp only [h, decide_false, Bool.not_false, cond_true]

theorem YH {f hi r : Nat} {d : List Int} (hf : f + hi ≤ d.length) (hr : r < hi) (hl : d.length < 2305843009213693951) :
    cV (hi : Nat) (f : Nat) d (r : Nat) = if hi ≤ 2 * r + 1 then some (.inr (.inl d)) else if gN d (f + r) < gN d (f + vP f hi d r) then some (.inl (swp d (f + r) (f + vP f hi d r), (vP f hi d r : Int))) else some (.inr (.inr d)) := by
  unfold cV
  have e1 : IntKind.i64.wrap (IntKind.i64.wrap ((2 : Int) * (r : Int)) + 1) = ((2 * r + 1 : Nat) : Int) := by
    rw [wrN (x := (2 : Int) * (r : Int)) (n := 2 * r) (by omega) (by omega)]; exact wrN (by omega) (by omega)
  have e2 : IntKind.i64.wrap (((2 * r + 1 : Nat) : Int) + 1) = ((2 * r + 2 : Nat) : Int) := wrN (by omega) (by omega)
  simp only [e1, e2]
  by_cases h : hi ≤ 2 * r + 1
  · rw [if_pos h]
    have : decide (((hi : Nat) : Int) ≤ ((2 * r + 1 : Nat) : Int)) = true := by simp; omega
    rw [this, cond_true]
  · rw [if_neg h]
    have d1 : decide (((hi : Nat) : Int) ≤ ((2 * r + 1 : Nat) : Int)) = false := by simp; omega
    rw [d1, cond_false]
    by_cases h2 : 2 * r + 2 < hi
    · have d2 : decide (((2 * r + 2 : Nat) : Int) < ((hi : Nat) : Int)) = true := by simp; omega
      have e3 : IntKind.i64.wrap ((f : Int) + ((2 * r + 1 : Nat) : Int)) = ((f + (2 * r + 1) : Nat) : Int) := wrN (by omega) (by omega)
      have e4 : IntKind.i64.wrap (((f + (2 * r + 1) : Nat) : Int) + 1) = ((f + (2 * r + 2) : Nat) : Int) := wrN (by omega) (by omega)
      simp only [d2, e3, e4, Int.toNat_natCast, qH, cW, cond_true, Option.bind_some, Bool.true_and]
      rw [aP fun _ => asN (by omega), aP fun _ => asN (by omega)]
      by_cases h3 : gN d (f + (2 * r + 1)) < gN d (f + (2 * r + 2))
      · have hb : vP f hi d r = 2 * r + 2 := if_pos ⟨h2, h3⟩
        simp only [gN] at h3
        simp only [h3, decide_true, cond_true]
        rw [KR hf hr h2 hl, hb]
      · have hb : vP f hi d r = 2 * r + 1 := if_neg fun hh => h3 hh.2
        simp only [gN] at h3
        simp only [h3, decide_false, cond_false]
        rw [KR hf hr (by omega) hl, hb]
    · have d2 : decide (((2 * r + 2 : Nat) : Int) < ((hi : Nat) : Int)) = false := by simp; omega
      have hb : vP f hi d r = 2 * r + 1 := if_neg fun hh => h2 hh.1
      simp only [d2, Bool.false_eq_true, false_implies, cW, cond_false, Option.bind_some, Bool.false_and]
      rw [aP trivial, aP trivial, KR hf hr (by omega) hl, hb]

def chd (c p : Nat) : Prop := c = 2 * p + 1 ∨ c = 2 * p + 2

def Hp (f lo hi : Nat) (d : List Int) : Prop := ∀ i c, lo ≤ i → chd c i → c < hi → gN d (f + c) ≤ gN d (f + i)

structure HpX (f lo hi r : Nat) (d : List Int) : Prop where
  oth : ∀ i c, lo ≤ i → i ≠ r → chd c i → c < hi → gN d (f + c) ≤ gN d (f + i)
  up : ∀ p c, lo ≤ p → chd r p → chd c r → c < hi → gN d (f + c) ≤ gN d (f + p)

theorem YI {f hi r : Nat} {d : List Int} (h : ¬ hi ≤ 2 * r + 1) : chd (vP f hi d r) r ∧ vP f hi d r < hi ∧ ∀ c, chd c r → c < hi → gN d (f + c) ≤ gN d (f + vP f hi d r) := by
  unfold vP
  split
  · rename_i h1
    refine ⟨.inr rfl, h1.1, fun c hc hlt => ?_⟩
    rcases hc with rfl | rfl
    · omega
    · exact Int.le_refl _
  · rename_i h1
    refine ⟨.inl rfl, by omega, fun c hc hlt => ?_⟩
    rcases hc with rfl | rfl
    · exact Int.le_refl _
    · have : ¬ gN d (f + (2 * r + 1)) < gN d (f + (2 * r + 2)) := fun hh => h1 ⟨hlt, hh⟩
      omega

theorem HpX.done {f lo hi r : Nat} {d : List Int} (h : HpX f lo hi r d) (hr : ∀ c, chd c r → c < hi → gN d (f + c) ≤ gN d (f + r)) : Hp f lo hi d := by
  intro i c h1 h2 h3
  by_cases e : i = r
  · subst e; exact hr c h2 h3
  · exact h.oth i c h1 e h2 h3

theorem HpX.next {f lo hi r c : Nat} {d : List Int} (h : HpX f lo hi r d) (hf : f + hi ≤ d.length) (hlo : lo ≤ r) (hrh : r < hi) (hc : chd c r) (hch : c < hi) (hbig : ∀ k, chd k r → k < hi → gN d (f + k) ≤ gN d (f + c)) (hlt : gN d (f + r) < gN d (f + c)) : HpX f lo hi c (swp d (f + r) (f + c)) := by
  have g := rT (d := d) (i := f + r) (j := f + c) (by omega) (by omega)
  have hcr : r < c := by unfold chd at hc; omega
  refine ⟨fun i k h1 h2 h3 h4 => ?_, fun p k h1 h2 h3 h4 => ?_⟩
  · rw [g, g, if_neg (show ¬ f + i = f + c by omega)]
    by_cases hir : i = r
    · subst hir
      rw [if_pos (show f + i = f + i from rfl)]
      by_cases hkc : k = c
      · subst hkc; rw [if_pos rfl]; omega
      · rw [if_neg (by omega), if_neg (by unfold chd at h3; omega)]
        exact hbig k h3 h4
    · rw [if_neg (show ¬ f + i = f + r by omega)]
      have hkc : k ≠ c := by intro e; subst e; unfold chd at h3 hc; omega
      rw [if_neg (by omega)]
      by_cases hkr : k = r
      · subst hkr
        rw [if_pos rfl]
        exact h.up i c h1 h3 hc hch
      · rw [if_neg (by omega)]
        exact h.oth i k h1 hir h3 h4
  · have hp : p = r := by unfold chd at h2 hc; omega
    subst hp
    have hk : c < k := by unfold chd at h3; omega
    rw [g, g, if_neg (by omega), if_neg (by omega), if_neg (by omega), if_pos rfl]
    exact h.oth c k (by omega) (by omega) h3 h4

theorem aBN {f lo hi : Nat} : ∀ (n r : Nat) (d : List Int), hi - r = n → f + hi ≤ d.length → lo ≤ r → r < hi → d.length < 2305843009213693951 → HpX f lo hi r d →
    ∃ d', (lp (fun s : List Int × Int => cV (hi : Nat) (f : Nat) s.1 s.2) (d, (r : Int)) = some (.inl d') ∨ lp (fun s : List Int × Int => cV (hi : Nat) (f : Nat) s.1 s.2) (d, (r : Int)) = some (.inr d')) ∧ Rel f (f + hi) d d' ∧ Hp f lo hi d' := by
  intro n
  induction n using Nat.strongRecOn with
  | ind n ih =>
    intro r d h1 h2 h3 h4 h5 h6
    have hs := YH h2 h4 h5
    by_cases h : hi ≤ 2 * r + 1
    · rw [if_pos h] at hs
      exact ⟨d, .inl (cU hs), Rel.refl .., h6.done fun c hc hlt => by unfold chd at hc; omega⟩
    · rw [if_neg h] at hs
      obtain ⟨b1, b2, b3⟩ := YI (f := f) (d := d) h
      by_cases hlt : gN d (f + r) < gN d (f + vP f hi d r)
      · rw [if_pos hlt] at hs
        have hb : r < vP f hi d r := by unfold chd at b1; omega
        obtain ⟨d', e, rl, hp⟩ := ih (hi - vP f hi d r) (by omega) (vP f hi d r) _ rfl (by rw [gT]; exact h2) (by omega) b2 (by rw [gT]; exact h5) (h6.next h2 h3 h4 b1 b2 b3 hlt)
        exact ⟨d', e.imp (fun e => (gH hs).trans e) (fun e => (gH hs).trans e), (Rel.swp (by omega) (by omega) (by omega) (by omega)).trans rl, hp⟩
      · rw [if_neg hlt] at hs
        exact ⟨d, .inr (cU hs), Rel.refl .., h6.done fun c hc hc2 => by have := b3 c hc hc2; omega⟩

theorem TO {f lo hi : Nat} {d : List Int} (h2 : f + hi ≤ d.length) (h5 : d.length < 2305843009213693951) (hlo : lo < 2305843009213693951) (h6 : HpX f lo hi lo d) :
    ∃ d', fB d (lo : Nat) (hi : Nat) (f : Nat) = some d' ∧ Rel f (f + hi) d d' ∧ Hp f lo hi d' := by
  unfold fB kG
  by_cases h : lo < hi
  · obtain ⟨d', e, r, p⟩ := aBN (hi - lo) lo d rfl h2 (Nat.le_refl _) h h5 h6
    rcases e with e | e <;> rw [e] <;> exact ⟨d', rfl, r, p⟩
  · refine ⟨d, ?_, Rel.refl .., fun i c h1 hc hlt => by unfold chd at hc; omega⟩
    have hs : cV (hi : Nat) (f : Nat) d (lo : Nat) = some (.inr (.inl d)) := by
      unfold cV
      have e1 : IntKind.i64.wrap (IntKind.i64.wrap ((2 : Int) * (lo : Int)) + 1) = ((2 * lo + 1 : Nat) : Int) := by
        rw [wrN (x := (2 : Int) * (lo : Int)) (n := 2 * lo) (by omega) (by omega)]; exact wrN (by omega) (by omega)
      have : decide (((hi : Nat) : Int) ≤ ((2 * lo + 1 : Nat) : Int)) = true := by simp; omega
      simp only [e1, this, cond_true]
    rw [cU (show (fun s : List Int × Int => cV (hi : Nat) (f : Nat) s.1 s.2) (d, (lo : Int)) = _ from hs)]
    rfl

theorem XF {f k : Nat} {d : List Int} (h : Hp f 0 k d) : ∀ i, i < k → gN d (f + i) ≤ gN d f := by
  intro i
  induction i using Nat.strongRecOn with
  | ind i ih =>
    intro hi
    by_cases h0 : i = 0
    · subst h0; exact Int.le_refl _
    · have h1 := h ((i - 1) / 2) i (Nat.zero_le _) (by unfold chd; omega) hi
      have h2 := ih ((i - 1) / 2) (by omega) (by omega)
      omega

theorem TV {f hi : Nat} : ∀ (k : Nat) (d : List Int), f + hi ≤ d.length → k < 2305843009213693951 → d.length < 2305843009213693951 → Hp f k hi d →
    ∃ d', lp (fun s : List Int × Int => dY (f : Nat) 0 (hi : Nat) s.1 s.2) (d, (k : Int) - 1) = some d' ∧ Rel f (f + hi) d d' ∧ Hp f 0 hi d'
  | 0, d, _, _, _, h => by
    refine ⟨d, cU ?_, Rel.refl .., h⟩
    show dY _ _ _ _ _ = _
    have : decide ((0 : Int) ≤ ((0 : Nat) : Int) - 1) = false := by simp
    simp only [dY, this, cond_false]
  | k + 1, d, h1, h2, h3, h => by
    obtain ⟨d1, e, r, p⟩ := TO (f := f) (lo := k) (hi := hi) h1 h3 (by omega) ⟨fun i c a1 a2 a3 a4 => h i c (by omega) a3 a4, fun p c a1 a2 => by unfold chd at a2; omega⟩
    obtain ⟨d2, e2, r2, p2⟩ := TV (f := f) (hi := hi) k d1 (by rw [r.len]; exact h1) (by omega) (by rw [r.len]; exact h3) p
    refine ⟨d2, ?_, r.trans r2, p2⟩
    rw [gH (s' := (d1, (k : Int) - 1)) ?_, e2]
    show dY _ _ _ _ _ = _
    have g1 : (((k + 1 : Nat) : Int) - 1) = (k : Int) := by omega
    have g2 : decide ((0 : Int) ≤ (k : Int)) = true := by simp
    simp only [dY, g1, g2, cond_true, e, Option.bind_some]
    rw [eA (by omega) (by omega)]

theorem WN {f n : Nat} : ∀ (k : Nat) (d : List Int), k ≤ n → f + n ≤ d.length → d.length < 2305843009213693951 → Hp f 0 k d → oO (f + k) (f + n) d → (∀ p q, f ≤ p → p < f + k → f + k ≤ q → q < f + n → gN d p ≤ gN d q) →
    ∃ d', lp (fun s : List Int × Int => dX (f : Nat) 0 s.1 s.2) (d, (k : Int) - 1) = some d' ∧ Rel f (f + n) d d' ∧ oO f (f + n) d'
  | 0, d, _, _, _, _, hs, _ => by
    refine ⟨d, cU ?_, Rel.refl .., hs⟩
    show dX _ _ _ _ = _
    have : decide ((0 : Int) ≤ ((0 : Nat) : Int) - 1) = false := by simp
    simp only [dX, this, cond_false]
  | k + 1, d, h1, h2, h3, h, hs, hb => by
    have g := rT (d := d) (i := f) (j := f + k) (by omega) (by omega)
    have hroot := XF h
    obtain ⟨d1, e, r, p⟩ := TO (f := f) (lo := 0) (hi := k) (d := swp d f (f + k)) (by rw [gT]; omega) (by rw [gT]; exact h3) (by omega) ⟨fun i c a1 a2 a3 a4 => by
      rw [g, g, if_neg (by unfold chd at a3; omega), if_neg (by unfold chd at a3; omega), if_neg (by unfold chd at a3; omega), if_neg (by omega)]
      exact h i c (by omega) a3 (by omega), fun p c a1 a2 => by unfold chd at a2; omega⟩
    have rs : Rel f (f + n) d (swp d f (f + k)) := Rel.swp (i := f) (j := f + k) (by omega) (by omega) (by omega) (by omega)
    have top : gN d1 (f + k) = gN d f := by rw [r.out _ (by omega), g, if_pos rfl]
    have tail : ∀ q, f + k < q → gN d1 q = gN d q := fun q hq => by rw [r.out _ (by omega), g, if_neg (by omega), if_neg (by omega)]
    have low : ∀ p, f ≤ p → p < f + k → ∃ p', f ≤ p' ∧ p' < f + (k + 1) ∧ gN d1 p = gN d p' := fun p p1 p2 => by
      obtain ⟨p', a1, a2, a3⟩ := r.src p p1 p2
      rw [g, if_neg (by omega)] at a3
      by_cases hp : p' = f
      · rw [if_pos hp] at a3; exact ⟨f + k, by omega, by omega, a3⟩
      · rw [if_neg hp] at a3; exact ⟨p', a1, by omega, a3⟩
    obtain ⟨d2, e2, r2, s2⟩ := WN (f := f) (n := n) k d1 (by omega) (by rw [r.len, gT]; exact h2) (by rw [r.len, gT]; exact h3) p (fun p q p1 p2 p3 => by
      by_cases hq : q = f + k
      · have : p = f + k := by omega
        rw [hq, this]; exact Int.le_refl _
      · rw [tail q (by omega)]
        by_cases hp : p = f + k
        · rw [hp, top]; exact hb f q (Nat.le_refl _) (by omega) (by omega) p3
        · rw [tail p (by omega)]; exact hs p q (by omega) p2 p3) (fun p q p1 p2 p3 p4 => by
      obtain ⟨p', a1, a2, a3⟩ := low p p1 p2
      rw [a3]
      by_cases hq : q = f + k
      · rw [hq, top]
        have := hroot (p' - f) (by omega)
        rw [show f + (p' - f) = p' by omega] at this
        exact this
      · rw [tail q (by omega)]; exact hb p' q a1 a2 (by omega) p4)
    refine ⟨d2, ?_, (rs.trans (r.mono (Nat.le_refl _) (by omega))).trans r2, s2⟩
    rw [gH (s' := (d1, (k : Int) - 1)) ?_, e2]
    show dX _ _ _ _ = _
    have g1 : (((k + 1 : Nat) : Int) - 1) = (k : Int) := by omega
    have g2 : decide ((0 : Int) ≤ (k : Int)) = true := by simp
    have g3 : IntKind.i64.wrap ((f : Int) + (k : Int)) = ((f + k : Nat) : Int) := wrN (by omega) (by omega)
    simp only [dX, g1, g2, g3, cond_true, Int.toNat_natCast]
    rw [aP (asN (by omega)), aP (asN (by omega)), aP (asN (by omega)), aP (asN (by omega))]
    have e' : fB (List.set (List.set d f (List.getD d (f + k) default)) (f + k) (List.getD d f default)) 0 (k : Int) (f : Int) = some d1 := e
    rw [e']
    simp only [Option.bind_some]
    rw [eA (by omega) (by omega)]

theorem XJ {lo hi : Nat} {d : List Int} (h0 : lo < hi) (h1 : hi ≤ d.length) (h3 : d.length < 2305843009213693951) : ∃ d', jF d (lo : Int) (hi : Int) = some d' ∧ Rel lo hi d d' ∧ oO lo hi d' := by
  unfold jF
  rw [aP (by decide)]
  have e1 : IntKind.i64.wrap ((hi : Int) - (lo : Int)) = ((hi - lo : Nat) : Int) := wrN (by omega) (by omega)
  have e2 : IntKind.i64.wrap (((hi - lo : Nat) : Int) - 1) = ((hi - lo - 1 : Nat) : Int) := wrN (by omega) (by omega)
  have e3 : IntKind.i64.wrap (Int.tdiv ((hi - lo - 1 : Nat) : Int) 2) = (((hi - lo - 1) / 2 + 1 : Nat) : Int) - 1 := by
    have : Int.tdiv ((hi - lo - 1 : Nat) : Int) 2 = (((hi - lo - 1) / 2 : Nat) : Int) := by rw [Int.tdiv_eq_ediv_of_nonneg (by omega)]; omega
    rw [this, wrN (n := (hi - lo - 1) / 2) rfl (by omega)]; omega
  rw [e1, e2, e3]
  unfold kE
  obtain ⟨d1, a1, r1, p1⟩ := TV (f := lo) (hi := hi - lo) ((hi - lo - 1) / 2 + 1) d (by omega) (by omega) h3 (fun i c b1 b2 b3 => by unfold chd at b2; omega)
  rw [a1]
  simp only [Option.bind_some, iY, kF]
  obtain ⟨d2, a2, r2, s2⟩ := WN (f := lo) (n := hi - lo) (hi - lo) d1 (Nat.le_refl _) (by rw [r1.len]; omega) (by rw [r1.len]; exact h3) p1 (fun p q b1 b2 b3 => by omega) (fun p q b1 b2 b3 b4 => by omega)
  have e4 : IntKind.i64.wrap (((hi - lo : Nat) : Int) - 1) = ((hi - lo : Nat) : Int) - 1 := eA (by omega) (by omega)
  rw [e4, a2]
  have : lo + (hi - lo) = hi := by omega
  rw [this] at r1 r2 s2
  exact ⟨d2, rfl, r1.trans r2, s2⟩

end Go.Abs
namespace Go.Abs
open Go
def HG : ByteArray := ⟨#[0, 1, 2, 2, 3, 3, 3, 3, 4, 4, 4, 4, 4, 4, 4, 4, 5, 5, 5, 5, 5, 5, 5, 5, 5, 5, 5, 5, 5, 5, 5, 5, 6, 6, 6, 6, 6, 6, 6, 6, 6, 6, 6, 6, 6, 6, 6, 6, 6, 6, 6, 6, 6, 6, 6, 6, 6, 6, 6, 6, 6, 6, 6, 6, 7, 7, 7, 7, 7, 7, 7, 7, 7, 7, 7, 7, 7, 7, 7, 7, 7, 7, 7, 7, 7, 7, 7, 7, 7, 7, 7, 7, 7, 7, 7, 7, 7, 7, 7, 7, 7, 7, 7, 7, 7, 7, 7, 7, 7, 7, 7, 7, 7, 7, 7, 7, 7, 7, 7, 7, 7, 7, 7, 7, 7, 7, 7, 7, 8, 8, 8, 8, 8, 8, 8, 8, 8, 8, 8, 8, 8, 8, 8, 8, 8, 8, 8, 8, 8, 8, 8, 8, 8, 8, 8, 8, 8, 8, 8, 8, 8, 8, 8, 8, 8, 8, 8, 8, 8, 8, 8, 8, 8, 8, 8, 8, 8, 8, 8, 8, 8, 8, 8, 8, 8, 8, 8, 8, 8, 8, 8, 8, 8, 8, 8, 8, 8, 8, 8, 8, 8, 8, 8, 8, 8, 8, 8, 8, 8, 8, 8, 8, 8, 8, 8, 8, 8, 8, 8, 8, 8, 8, 8, 8, 8, 8, 8, 8, 8, 8, 8, 8, 8, 8, 8, 8, 8, 8, 8, 8, 8, 8, 8, 8, 8, 8, 8, 8, 8, 8, 8, 8, 8, 8, 8, 8]⟩

theorem YN : ∀ i : Fin 256, i.val ≠ 0 → ∃ k : Fin 8, bt HG (i.val : Int) = (k.val : Int) + 1 ∧ 2 ^ k.val ≤ i.val := by decide +kernel

theorem MP : ByteArray.size HG = 256 := by decide +kernel

theorem aA3 {x : Int} (h : 0 ≤ x) (h2 : x ≤ 255) : IntKind.u8.wrap x = x := by
  simp only [IntKind.wrap, IntKind.bits, IntKind.signed]
  simp
  omega

theorem DQ {x : Int} (h : 0 ≤ x) (h2 : x ≤ 9223372036854775807) : IntKind.u64.wrap x = x := by
  simp only [IntKind.wrap, IntKind.bits, IntKind.signed]
  simp
  omega

theorem WJ {x n : Int} (h1 : 1 ≤ x) (h2 : x ≤ 255) (hn : 0 ≤ n ∧ n ≤ 100) : ∃ k : Nat, lR x n = some (n + k + 1) ∧ k ≤ 7 ∧ (2 : Int) ^ k ≤ x := by
  obtain ⟨k, e, hk⟩ := YN ⟨x.toNat, by omega⟩ (by simp; omega)
  refine ⟨k.val, ?_, by omega, ?_⟩
  · show (bD (0 ≤ (IntKind.u8.wrap x) ∧ (IntKind.u8.wrap x) < ((ByteArray.size HG : Nat) : Int)) <| some (IntKind.i64.wrap (n + (IntKind.i64.wrap (bt HG (IntKind.u8.wrap x)))))) = _
    rw [aA3 (by omega) h2, aP (by rw [MP]; omega)]
    simp only at e
    rw [Int.toNat_of_nonneg (by omega)] at e
    rw [e, eA (n := (k.val : Int) + 1) (by omega) (by omega), eA (by omega) (by omega)]
    congr 1
    omega
  · simp only at hk
    have : ((2 ^ k.val : Nat) : Int) ≤ ((x.toNat : Nat) : Int) := by exact_mod_cast hk
    rw [Int.toNat_of_nonneg (by omega)] at this
    simpa using this

theorem GP {x m : Int} (hm : 0 < m) : Int.fdiv x m = x / m := Int.fdiv_eq_ediv_of_nonneg _ (by omega)

theorem ZG {x n : Int} (h1 : 1 ≤ x) (h2 : x ≤ 65535) (hn : 0 ≤ n ∧ n ≤ 90) : ∃ k : Nat, kJ x n = some (n + k + 1) ∧ k ≤ 15 ∧ (2 : Int) ^ k ≤ x := by
  unfold kJ
  by_cases h : 256 ≤ x
  · have hd : Int.fdiv x (2 ^ (min (Int.toNat (8 : Int)) 64)) = x / 256 := by rw [show (2 ^ (min (Int.toNat (8 : Int)) 64) : Int) = 256 from by decide]; exact GP (by omega)
    obtain ⟨k, e, h3, h4⟩ := WJ (x := x / 256) (n := n + 8) (by omega) (by omega) (by omega)
    refine ⟨k + 8, ?_, by omega, ?_⟩
    · simp only [h, decide_true, cond_true]
      rw [aP (by decide), hd, eA (n := n + 8) (by omega) (by omega), e]
      congr 1; omega
    · rw [Int.pow_add]; have : (2 : Int) ^ 8 = 256 := by decide
      rw [this]; omega
  · obtain ⟨k, e, h3, h4⟩ := WJ (x := x) (n := n) h1 (by omega) (by omega)
    exact ⟨k, by simp only [h, decide_false, cond_false, e], by omega, h4⟩

theorem WR {x n : Int} (h1 : 1 ≤ x) (h2 : x ≤ 4294967295) (hn : 0 ≤ n ∧ n ≤ 70) : ∃ k : Nat, kH x n = some (n + k + 1) ∧ k ≤ 31 ∧ (2 : Int) ^ k ≤ x := by
  unfold kH
  by_cases h : 65536 ≤ x
  · have hd : Int.fdiv x (2 ^ (min (Int.toNat (16 : Int)) 64)) = x / 65536 := by rw [show (2 ^ (min (Int.toNat (16 : Int)) 64) : Int) = 65536 from by decide]; exact GP (by omega)
    obtain ⟨k, e, h3, h4⟩ := ZG (x := x / 65536) (n := n + 16) (by omega) (by omega) (by omega)
    refine ⟨k + 16, ?_, by omega, ?_⟩
    · simp only [h, decide_true, cond_true]
      rw [aP (by decide), hd, eA (n := n + 16) (by omega) (by omega), e]
      congr 1; omega
    · rw [Int.pow_add]; have : (2 : Int) ^ 16 = 65536 := by decide
      rw [this]; omega
  · obtain ⟨k, e, h3, h4⟩ := ZG (x := x) (n := n) h1 (by omega) (by omega)
    exact ⟨k, by simp only [h, decide_false, cond_false, e], by omega, h4⟩

theorem YU {x : Int} (h1 : 1 ≤ x) (h2 : x ≤ 9223372036854775807) : ∃ k : Nat, kA x = some ((k : Int) + 1) ∧ k ≤ 63 ∧ (2 : Int) ^ k ≤ x := by
  unfold kA nM
  by_cases h : 4294967296 ≤ x
  · have hd : Int.fdiv x (2 ^ (min (Int.toNat (32 : Int)) 64)) = x / 4294967296 := by rw [show (2 ^ (min (Int.toNat (32 : Int)) 64) : Int) = 4294967296 from by decide]; exact GP (by omega)
    obtain ⟨k, e, h3, h4⟩ := WR (x := x / 4294967296) (n := 32) (by omega) (by omega) (by omega)
    refine ⟨k + 32, ?_, by omega, ?_⟩
    · simp only [h, decide_true, cond_true]
      rw [aP (by decide), hd, e]
      simp only [Option.bind_some]
      congr 1; omega
    · rw [Int.pow_add]; have : (2 : Int) ^ 32 = 4294967296 := by decide
      rw [this]; omega
  · obtain ⟨k, e, h3, h4⟩ := WR (x := x) (n := 0) h1 (by omega) (by omega)
    refine ⟨k, ?_, by omega, h4⟩
    simp only [h, decide_false, cond_false, e, Option.bind_some]
    congr 1; omega

theorem YO : bt HG 0 = 0 := by decide +kernel

theorem ZW : kA 0 = some 0 := by
  have h3 : lR 0 0 = some 0 := by
    show (bD (0 ≤ (IntKind.u8.wrap 0) ∧ (IntKind.u8.wrap 0) < ((ByteArray.size HG : Nat) : Int)) <| some (IntKind.i64.wrap (0 + (IntKind.i64.wrap (bt HG (IntKind.u8.wrap 0)))))) = _
    rw [aA3 (by omega) (by omega), aP (by rw [MP]; omega), YO, eA (n := 0) (by omega) (by omega), eA (by omega) (by omega)]
    rfl
  have h2 : kJ 0 0 = some 0 := h3
  have h1 : kH 0 0 = some 0 := h2
  unfold kA nM
  have : decide ((4294967296 : Int) ≤ 0) = false := by decide
  rw [this, cond_false, h1]
  rfl

theorem aAi {n : Nat} (h1 : 1 ≤ n) (h2 : n < 2305843009213693951) : ∃ m : Int, kT (n : Int) = some m ∧ 1 ≤ m ∧ m ≤ 2 * n := by
  unfold kT
  rw [DQ (by omega) (by omega)]
  obtain ⟨k, e, h3, h4⟩ := YU (x := (n : Int)) (by omega) (by omega)
  have hk : (2 : Int) ^ (k + 1) = 2 * 2 ^ k := by rw [Int.pow_succ]; omega
  have hp : (1 : Int) ≤ 2 ^ k := by
    have : (0 : Int) < 2 ^ k := Int.pow_pos (by decide)
    omega
  rw [e]
  simp only [Option.bind_some]
  rw [aP (by omega), show min (Int.toNat ((k : Int) + 1)) 64 = k + 1 by omega, Int.one_mul, hk, DQ (by omega) (by omega)]
  exact ⟨_, rfl, by omega, by omega⟩

theorem aCm (x : Int) {m : Int} (h0 : 0 ≤ m) (hm : m ≤ 9223372036854775807) : 0 ≤ bM .and .u64 x m ∧ bM .and .u64 x m ≤ m := by
  have h1 : (BitVec.ofInt IntKind.u64.bits x &&& BitVec.ofInt IntKind.u64.bits m).toNat ≤ m.toNat := by
    rw [BitVec.toNat_and]
    refine Nat.le_trans Nat.and_le_right ?_
    rw [BitVec.toNat_ofInt]
    have : IntKind.u64.bits = 64 := rfl
    rw [this]
    omega
  have h2 : bM .and .u64 x m = ((BitVec.ofInt IntKind.u64.bits x &&& BitVec.ofInt IntKind.u64.bits m).toNat : Int) := DQ (by omega) (by omega)
  rw [h2]
  omega

theorem US (r : Int) : ∃ x, lE r = some x := by
  unfold lE
  rw [aP (by decide), aP (by decide), aP (by decide)]
  exact ⟨_, rfl⟩

theorem WE {lo i o : Nat} {d : List Int} (l r m : Int) (hi : i < d.length) (ho : lo + o < d.length) (hl : d.length < 2305843009213693951) :
    eS d (lo : Nat) l r m (i : Nat) (o : Nat) = some (.inl (swp d i (lo + o), r, ((i + 1 : Nat) : Int))) := by
  unfold eS
  rw [wrN (x := (lo : Int) + (o : Int)) (n := lo + o) (by omega) (by omega), wrN (n := i + 1) (by omega) (by omega)]
  simp only [Int.toNat_natCast]
  rw [aP (asN (by omega)), aP (asN (by omega)), aP (asN (by omega)), aP (asN (by omega))]
  rfl

theorem aCj {lo n : Nat} {m : Int} (hm : 1 ≤ m ∧ m ≤ 2 * n) (h8 : 8 ≤ n) : ∀ (q i : Nat) (r : Int) (d : List Int), lo + n / 4 * 2 + 2 - i = q → lo ≤ i → i ≤ lo + n / 4 * 2 + 2 → lo + n ≤ d.length → d.length < 2305843009213693951 →
    ∃ d', lp (fun s : List Int × Int × Int => cR (lo : Nat) (n : Nat) m s.1 s.2.1 s.2.2) (d, r, (i : Int)) = some d' ∧ Rel lo (lo + n) d d' := by
  have t4 : IntKind.i64.wrap (Int.tdiv (n : Int) 4) = ((n / 4 : Nat) : Int) ∨ 2305843009213693951 ≤ n := by
    by_cases h : n < 2305843009213693951
    · left
      have : Int.tdiv (n : Int) 4 = ((n / 4 : Nat) : Int) := by rw [Int.tdiv_eq_ediv_of_nonneg (by omega)]; omega
      rw [this]; exact wrN rfl (by omega)
    · right; omega
  intro q
  induction q with
  | zero =>
    intro i r d h1 h2 h3 h4 h5
    have t4 := t4.resolve_right (by omega)
    refine ⟨d, cU ?_, Rel.refl ..⟩
    show cR _ _ _ _ _ _ = _
    unfold cR
    rw [aP (by decide), t4, wrN (x := ((n / 4 : Nat) : Int) * 2) (n := n / 4 * 2) (by omega) (by omega), wrN (x := (lo : Int) + ((n / 4 * 2 : Nat) : Int)) (n := lo + n / 4 * 2) (by omega) (by omega), wrN (x := ((lo + n / 4 * 2 : Nat) : Int) + 1) (n := lo + n / 4 * 2 + 1) (by omega) (by omega)]
    have : decide (((i : Nat) : Int) ≤ ((lo + n / 4 * 2 + 1 : Nat) : Int)) = false := by simp; omega
    rw [this, cond_false]
  | succ q ih =>
    intro i r d h1 h2 h3 h4 h5
    have t4 := t4.resolve_right (by omega)
    obtain ⟨x, hx⟩ := US r
    obtain ⟨a1, a2⟩ := aCm x.1 (m := m - 1) (by omega) (by omega)
    have hd : decide (((i : Nat) : Int) ≤ ((lo + n / 4 * 2 + 1 : Nat) : Int)) = true := by simp; omega
    have step : ∃ o, o < n ∧ cR (lo : Nat) (n : Nat) m d r (i : Nat) = some (.inl (swp d i (lo + o), x.2, ((i + 1 : Nat) : Int))) := by
      unfold cR
      rw [aP (by decide), t4, wrN (x := ((n / 4 : Nat) : Int) * 2) (n := n / 4 * 2) (by omega) (by omega), wrN (x := (lo : Int) + ((n / 4 * 2 : Nat) : Int)) (n := lo + n / 4 * 2) (by omega) (by omega), wrN (x := ((lo + n / 4 * 2 : Nat) : Int) + 1) (n := lo + n / 4 * 2 + 1) (by omega) (by omega), hd, cond_true, hx]
      simp only [Option.bind_some]
      rw [DQ (x := m - 1) (by omega) (by omega)]
      have e1 : IntKind.i64.wrap (bM .and .u64 x.1 (m - 1)) = (((bM .and .u64 x.1 (m - 1)).toNat : Nat) : Int) := wrN (by omega) (by omega)
      rw [e1]
      by_cases h : (n : Int) ≤ (((bM .and .u64 x.1 (m - 1)).toNat : Nat) : Int)
      · refine ⟨(bM .and .u64 x.1 (m - 1)).toNat - n, by omega, ?_⟩
        simp only [h, decide_true, cond_true]
        rw [wrN (x := (((bM .and .u64 x.1 (m - 1)).toNat : Nat) : Int) - (n : Int)) (n := (bM .and .u64 x.1 (m - 1)).toNat - n) (by omega) (by omega)]
        exact WE _ _ _ (by omega) (by omega) h5
      · refine ⟨(bM .and .u64 x.1 (m - 1)).toNat, by omega, ?_⟩
        simp only [h, decide_false, cond_false]
        exact WE _ _ _ (by omega) (by omega) h5
    obtain ⟨o, ho, hs⟩ := step
    obtain ⟨d', e, rl⟩ := ih (i + 1) x.2 (swp d i (lo + o)) (by omega) (by omega) (by omega) (by rw [gT]; exact h4) (by rw [gT]; exact h5)
    exact ⟨d', (gH (show (fun s : List Int × Int × Int => cR (lo : Nat) (n : Nat) m s.1 s.2.1 s.2.2) (d, r, (i : Int)) = _ from hs)).trans e, (Rel.swp (i := i) (j := lo + o) (by omega) (by omega) (by omega) (by omega)).trans rl⟩

theorem YM {lo hi : Nat} {d : List Int} (h8 : 8 ≤ hi - lo) (h1 : hi ≤ d.length) (h2 : d.length < 2305843009213693951) : ∃ d', gL d (lo : Int) (hi : Int) = some d' ∧ Rel lo hi d d' := by
  unfold gL
  have e1 : IntKind.i64.wrap ((hi : Int) - (lo : Int)) = ((hi - lo : Nat) : Int) := wrN (by omega) (by omega)
  have d1 : decide ((8 : Int) ≤ ((hi - lo : Nat) : Int)) = true := by simp; omega
  obtain ⟨m, em, m1, m2⟩ := aAi (n := hi - lo) (by omega) (by omega)
  have t4 : IntKind.i64.wrap (Int.tdiv ((hi - lo : Nat) : Int) 4) = (((hi - lo) / 4 : Nat) : Int) := by
    have : Int.tdiv ((hi - lo : Nat) : Int) 4 = (((hi - lo) / 4 : Nat) : Int) := by rw [Int.tdiv_eq_ediv_of_nonneg (by omega)]; omega
    rw [this]; exact wrN rfl (by omega)
  rw [e1, d1, cond_true, em]
  simp only [Option.bind_some]
  rw [aP (by decide), t4, wrN (x := (((hi - lo) / 4 : Nat) : Int) * 2) (n := (hi - lo) / 4 * 2) (by omega) (by omega), wrN (x := (lo : Int) + (((hi - lo) / 4 * 2 : Nat) : Int)) (n := lo + (hi - lo) / 4 * 2) (by omega) (by omega), wrN (x := ((lo + (hi - lo) / 4 * 2 : Nat) : Int) - 1) (n := lo + (hi - lo) / 4 * 2 - 1) (by omega) (by omega)]
  unfold iZ
  obtain ⟨d', e, r⟩ := aCj (lo := lo) (n := hi - lo) (m := m) ⟨m1, m2⟩ h8 (lo + (hi - lo) / 4 * 2 + 2 - (lo + (hi - lo) / 4 * 2 - 1)) (lo + (hi - lo) / 4 * 2 - 1) (IntKind.u64.wrap ((hi - lo : Nat) : Int)) d rfl (by omega) (by omega) (by omega) h2
  rw [e]
  have : lo + (hi - lo) = hi := by omega
  rw [this] at r
  exact ⟨d', rfl, r⟩

theorem aAc {a b : Nat} {d : List Int} (s : Int) (ha : a < d.length) (hb : b < d.length) : ∃ (p q : Nat) (s' : Int), fQ d (a : Int) (b : Int) s = some (((p : Int), (q : Int)), s') ∧ ((p = a ∧ q = b) ∨ (p = b ∧ q = a)) := by
  unfold fQ
  rw [aP (asN hb), aP (asN ha), qH]
  simp only [Option.bind_some]
  cases decide (d.getD (Int.toNat (b : Int)) default < d.getD (Int.toNat (a : Int)) default)
  · exact ⟨a, b, _, rfl, .inl ⟨rfl, rfl⟩⟩
  · exact ⟨b, a, _, rfl, .inr ⟨rfl, rfl⟩⟩

theorem med {a b c : Nat} {d : List Int} (s : Int) (ha : a < d.length) (hb : b < d.length) (hc : c < d.length) : ∃ (p : Nat) (s' : Int), iG d (a : Int) (b : Int) (c : Int) s = some ((p : Int), s') ∧ (p = a ∨ p = b ∨ p = c) := by
  unfold iG
  obtain ⟨p1, q1, s1, e1, h1⟩ := aAc s ha hb
  obtain ⟨p2, q2, s2, e2, h2⟩ := aAc (a := q1) (b := c) (d := d) s1 (by omega) hc
  obtain ⟨p3, q3, s3, e3, h3⟩ := aAc (a := p1) (b := p2) (d := d) s2 (by omega) (by omega)
  rw [e1]; simp only [Option.bind_some]
  rw [e2]; simp only [Option.bind_some]
  rw [e3]
  exact ⟨q3, s3, rfl, by omega⟩

theorem aAH {a : Nat} {d : List Int} (s : Int) (h1 : 1 ≤ a) (ha : a + 1 < d.length) (hl : d.length < 2305843009213693951) : ∃ (p : Nat) (s' : Int), dR d (a : Int) s = some ((p : Int), s') ∧ a - 1 ≤ p ∧ p ≤ a + 1 := by
  unfold dR
  rw [wrN (x := (a : Int) - 1) (n := a - 1) (by omega) (by omega), wrN (x := (a : Int) + 1) (n := a + 1) (by omega) (by omega)]
  obtain ⟨p, s', e, h⟩ := med (a := a - 1) (b := a) (c := a + 1) (d := d) s (by omega) (by omega) (by omega)
  rw [e]
  exact ⟨p, s', rfl, by omega, by omega⟩

theorem aAZ (d : List Int) (s : Int) (j : Int) : ∃ h, eZ d s j = some (j, h) := by
  unfold eZ
  cases decide (s = 0) <;> cases decide (s = 12) <;> exact ⟨_, rfl⟩

theorem UP {lo hi : Nat} {d : List Int} (h8 : 12 < hi - lo) (h1 : hi ≤ d.length) (h2 : d.length < 2305843009213693951) : ∃ (p : Nat) (h : Int), iB d (lo : Int) (hi : Int) = some ((p : Int), h) ∧ lo ≤ p ∧ p < hi := by
  unfold iB
  have e1 : IntKind.i64.wrap ((hi : Int) - (lo : Int)) = ((hi - lo : Nat) : Int) := wrN (by omega) (by omega)
  have t4 : IntKind.i64.wrap (Int.tdiv ((hi - lo : Nat) : Int) 4) = (((hi - lo) / 4 : Nat) : Int) := by
    have : Int.tdiv ((hi - lo : Nat) : Int) 4 = (((hi - lo) / 4 : Nat) : Int) := by rw [Int.tdiv_eq_ediv_of_nonneg (by omega)]; omega
    rw [this]; exact wrN rfl (by omega)
  have d1 : decide ((8 : Int) ≤ ((hi - lo : Nat) : Int)) = true := by simp; omega
  have q1 : IntKind.i64.wrap ((lo : Int) + IntKind.i64.wrap ((((hi - lo) / 4 : Nat) : Int) * 1)) = ((lo + (hi - lo) / 4 : Nat) : Int) := by
    rw [wrN (x := (((hi - lo) / 4 : Nat) : Int) * 1) (n := (hi - lo) / 4) (by omega) (by omega)]; exact wrN (by omega) (by omega)
  have q2 : IntKind.i64.wrap ((lo : Int) + IntKind.i64.wrap ((((hi - lo) / 4 : Nat) : Int) * 2)) = ((lo + (hi - lo) / 4 * 2 : Nat) : Int) := by
    rw [wrN (x := (((hi - lo) / 4 : Nat) : Int) * 2) (n := (hi - lo) / 4 * 2) (by omega) (by omega)]; exact wrN (by omega) (by omega)
  have q3 : IntKind.i64.wrap ((lo : Int) + IntKind.i64.wrap ((((hi - lo) / 4 : Nat) : Int) * 3)) = ((lo + (hi - lo) / 4 * 3 : Nat) : Int) := by
    rw [wrN (x := (((hi - lo) / 4 : Nat) : Int) * 3) (n := (hi - lo) / 4 * 3) (by omega) (by omega)]; exact wrN (by omega) (by omega)
  rw [aP (by decide), aP (by decide), aP (by decide)]
  simp only [e1, t4, d1, q1, q2, q3, cond_true]
  by_cases h50 : (50 : Int) ≤ ((hi - lo : Nat) : Int)
  · simp only [h50, decide_true, cond_true]
    obtain ⟨p1, s1, f1, g1, g2⟩ := aAH (a := lo + (hi - lo) / 4) (d := d) 0 (by omega) (by omega) h2
    obtain ⟨p2, s2, f2, g3, g4⟩ := aAH (a := lo + (hi - lo) / 4 * 2) (d := d) s1 (by omega) (by omega) h2
    obtain ⟨p3, s3, f3, g5, g6⟩ := aAH (a := lo + (hi - lo) / 4 * 3) (d := d) s2 (by omega) (by omega) h2
    obtain ⟨p4, s4, f4, g7⟩ := med (a := p1) (b := p2) (c := p3) (d := d) s3 (by omega) (by omega) (by omega)
    obtain ⟨h, f5⟩ := aAZ d s4 p4
    rw [f1]; simp only [Option.bind_some]
    rw [f2]; simp only [Option.bind_some]
    rw [f3]; simp only [Option.bind_some, fA]
    rw [f4]; simp only [Option.bind_some]
    exact ⟨p4, h, f5, by omega, by omega⟩
  · simp only [h50, decide_false, cond_false, fA]
    obtain ⟨p4, s4, f4, g7⟩ := med (a := lo + (hi - lo) / 4) (b := lo + (hi - lo) / 4 * 2) (c := lo + (hi - lo) / 4 * 3) (d := d) 0 (by omega) (by omega) (by omega)
    obtain ⟨h, f5⟩ := aAZ d s4 p4
    rw [f4]; simp only [Option.bind_some]
    exact ⟨p4, h, f5, by omega, by omega⟩

end Go.Abs
namespace Go.Abs
open Go
theorem KB {body : List Int × Int → Option ((List Int × Int) ⊕ (List Int × Int))} {d : List Int} {p : Nat → Prop} [DecidablePred p] {j : Nat}
    (hs : ∀ i, i ≤ j + 1 → body (d, (i : Int)) = if i ≤ j ∧ p i then some (.inl (d, ((i + 1 : Nat) : Int))) else some (.inr (d, (i : Int)))) :
    ∀ (n i : Nat), j + 1 - i = n → i ≤ j + 1 → ∃ i' : Nat, lp body (d, (i : Int)) = some (d, (i' : Int)) ∧ i ≤ i' ∧ i' ≤ j + 1 ∧ (∀ k, i ≤ k → k < i' → p k) ∧ (i' ≤ j → ¬ p i') := by
  intro n
  induction n with
  | zero =>
    intro i h1 h2
    have := hs i h2
    rw [if_neg (by omega)] at this
    exact ⟨i, cU this, Nat.le_refl _, h2, fun k a b => by omega, fun h => by omega⟩
  | succ n ih =>
    intro i h1 h2
    have h := hs i h2
    by_cases hp : p i
    · rw [if_pos ⟨by omega, hp⟩] at h
      obtain ⟨i', e, a1, a2, a3, a4⟩ := ih (i + 1) (by omega) (by omega)
      refine ⟨i', (gH h).trans e, by omega, a2, fun k b1 b2 => ?_, a4⟩
      by_cases hk : k = i
      · rw [hk]; exact hp
      · exact a3 k (by omega) b2
    · rw [if_neg fun hh => hp hh.2] at h
      exact ⟨i, cU h, Nat.le_refl _, h2, fun k a b => by omega, fun _ => hp⟩

theorem CY {body : List Int × Int → Option ((List Int × Int) ⊕ (List Int × Int))} {d : List Int} {p : Nat → Prop} [DecidablePred p] {i m : Nat} (hi : 1 ≤ i)
    (hs : ∀ j, j ≤ m → body (d, (j : Int)) = if i ≤ j ∧ p j then some (.inl (d, ((j - 1 : Nat) : Int))) else some (.inr (d, (j : Int)))) :
    ∀ (j : Nat), j ≤ m → i ≤ j + 1 → ∃ j' : Nat, lp body (d, (j : Int)) = some (d, (j' : Int)) ∧ i ≤ j' + 1 ∧ j' ≤ j ∧ (∀ k, j' < k → k ≤ j → p k) ∧ (i ≤ j' → ¬ p j') := by
  intro j
  induction j with
  | zero =>
    intro h1 h2
    have := hs 0 h1
    rw [if_neg (by omega)] at this
    exact ⟨0, cU this, by omega, Nat.le_refl _, fun k a b => by omega, fun h => by omega⟩
  | succ j ih =>
    intro h1 h2
    have h := hs (j + 1) h1
    by_cases hp : i ≤ j + 1 ∧ p (j + 1)
    · rw [if_pos hp] at h
      obtain ⟨j', e, a1, a2, a3, a4⟩ := ih (by omega) (by omega)
      refine ⟨j', (gH h).trans e, a1, by omega, fun k b1 b2 => ?_, a4⟩
      by_cases hk : k = j + 1
      · rw [hk]; exact hp.2
      · exact a3 k b1 (by omega)
    · rw [if_neg hp] at h
      exact ⟨j + 1, cU h, by omega, Nat.le_refl _, fun k a b => by omega, fun h1 h2 => hp ⟨h1, h2⟩⟩

theorem TH {α : Type} {i j u v : Nat} {d : List Int} {n : Bool} {x y : Option α} (hu : i ≤ j → u < d.length) (hv : i ≤ j → v < d.length) :
    (bD ((decide ((i : Int) ≤ (j : Int))) = true → 0 ≤ (u : Int) ∧ (u : Int) < ((List.length d : Nat) : Int)) <|
    bD ((decide ((i : Int) ≤ (j : Int))) = true → 0 ≤ (v : Int) ∧ (v : Int) < ((List.length d : Nat) : Int)) <|
    (cW (decide ((i : Int) ≤ (j : Int))) (cY (List.getD d (Int.toNat (u : Int)) default) (List.getD d (Int.toNat (v : Int)) default))).bind fun z =>
    cond ((decide ((i : Int) ≤ (j : Int))) && (Bool.xor n z)) x y) = if i ≤ j ∧ (Bool.xor n (decide (gN d u < gN d v))) = true then x else y := by
  by_cases h : i ≤ j
  · have hd : decide ((i : Int) ≤ (j : Int)) = true := by simp; omega
    rw [hd]
    rw [aP fun _ => asN (hu h), aP fun _ => asN (hv h)]
    simp only [cW, cond_true, qH, Option.bind_some, Bool.true_and, Int.toNat_natCast, h, true_and, gN]
    cases Bool.xor n (decide (d.getD u default < d.getD v default)) <;> simp
  · have hd : decide ((i : Int) ≤ (j : Int)) = false := by simp; omega
    rw [hd, aP (fun h => by cases h), aP (fun h => by cases h)]
    simp [cW, h]

theorem GU {α : Type} {i j u v : Nat} {d : List Int} {x y : Option α} (hu : i ≤ j → u < d.length) (hv : i ≤ j → v < d.length) :
    (bD ((decide ((i : Int) ≤ (j : Int))) = true → 0 ≤ (u : Int) ∧ (u : Int) < ((List.length d : Nat) : Int)) <|
    bD ((decide ((i : Int) ≤ (j : Int))) = true → 0 ≤ (v : Int) ∧ (v : Int) < ((List.length d : Nat) : Int)) <|
    (cW (decide ((i : Int) ≤ (j : Int))) (cY (List.getD d (Int.toNat (u : Int)) default) (List.getD d (Int.toNat (v : Int)) default))).bind fun z =>
    cond ((decide ((i : Int) ≤ (j : Int))) && z) x y) = if i ≤ j ∧ gN d u < gN d v then x else y := by
  have := TH (n := false) (x := x) (y := y) hu hv
  simp only [Bool.false_xor] at this
  exact this.trans (by simp)

theorem GW {α : Type} {i j u v : Nat} {d : List Int} {x y : Option α} (hu : i ≤ j → u < d.length) (hv : i ≤ j → v < d.length) :
    (bD ((decide ((i : Int) ≤ (j : Int))) = true → 0 ≤ (u : Int) ∧ (u : Int) < ((List.length d : Nat) : Int)) <|
    bD ((decide ((i : Int) ≤ (j : Int))) = true → 0 ≤ (v : Int) ∧ (v : Int) < ((List.length d : Nat) : Int)) <|
    (cW (decide ((i : Int) ≤ (j : Int))) (cY (List.getD d (Int.toNat (u : Int)) default) (List.getD d (Int.toNat (v : Int)) default))).bind fun z =>
    cond ((decide ((i : Int) ≤ (j : Int))) && (!z)) x y) = if i ≤ j ∧ ¬ gN d u < gN d v then x else y := by
  have := TH (n := true) (x := x) (y := y) hu hv
  simp only [Bool.true_xor] at this
  exact this.trans (by simp)

theorem aBA {a j : Nat} {d : List Int} (ha : a < d.length) (hj : j < d.length) (hl : d.length < 2305843009213693951) : ∀ i, i ≤ j + 1 → eD (a : Nat) (j : Nat) d (i : Nat) = if i ≤ j ∧ gN d i < gN d a then some (.inl (d, ((i + 1 : Nat) : Int))) else some (.inr (d, (i : Int))) := by
  intro i hi
  unfold eD
  rw [wrN (x := (i : Int) + 1) (n := i + 1) (by omega) (by omega)]
  exact GU (u := i) (v := a) (by omega) (by omega)

theorem ZN {a j : Nat} {d : List Int} (ha : a < d.length) (hj : j < d.length) (hl : d.length < 2305843009213693951) : ∀ i, i ≤ j + 1 → eM (a : Nat) (j : Nat) d (i : Nat) = if i ≤ j ∧ gN d i < gN d a then some (.inl (d, ((i + 1 : Nat) : Int))) else some (.inr (d, (i : Int))) := by
  intro i hi
  unfold eM
  rw [wrN (x := (i : Int) + 1) (n := i + 1) (by omega) (by omega)]
  exact GU (u := i) (v := a) (by omega) (by omega)

theorem XC {a i m : Nat} {d : List Int} (hi : 1 ≤ i) (ha : a < d.length) (hm : m < d.length) (hl : d.length < 2305843009213693951) : ∀ j, j ≤ m → eJ (a : Nat) (i : Nat) d (j : Nat) = if i ≤ j ∧ ¬ gN d j < gN d a then some (.inl (d, ((j - 1 : Nat) : Int))) else some (.inr (d, (j : Int))) := by
  intro j hj
  unfold eJ
  refine (GW (i := i) (j := j) (d := d) (α := (List Int × Int) ⊕ (List Int × Int)) (u := j) (v := a) (x := some (.inl (d, IntKind.i64.wrap ((j : Int) - 1)))) (y := some (.inr (d, (j : Int)))) (by omega) (by omega)).trans ?_
  by_cases h : i ≤ j ∧ ¬ gN d j < gN d a
  · rw [if_pos h, if_pos h, wrN (x := (j : Int) - 1) (n := j - 1) (by omega) (by omega)]
  · rw [if_neg h, if_neg h]

theorem VW {a i m : Nat} {d : List Int} (hi : 1 ≤ i) (ha : a < d.length) (hm : m < d.length) (hl : d.length < 2305843009213693951) : ∀ j, j ≤ m → eN (a : Nat) (i : Nat) d (j : Nat) = if i ≤ j ∧ ¬ gN d j < gN d a then some (.inl (d, ((j - 1 : Nat) : Int))) else some (.inr (d, (j : Int))) := by
  intro j hj
  unfold eN
  refine (GW (i := i) (j := j) (d := d) (α := (List Int × Int) ⊕ (List Int × Int)) (u := j) (v := a) (x := some (.inl (d, IntKind.i64.wrap ((j : Int) - 1)))) (y := some (.inr (d, (j : Int)))) (by omega) (by omega)).trans ?_
  by_cases h : i ≤ j ∧ ¬ gN d j < gN d a
  · rw [if_pos h, if_pos h, wrN (x := (j : Int) - 1) (n := j - 1) (by omega) (by omega)]
  · rw [if_neg h, if_neg h]

theorem aAf {a j : Nat} {d : List Int} (ha : a < d.length) (hj : j < d.length) (hl : d.length < 2305843009213693951) : ∀ i, i ≤ j + 1 → dL (a : Nat) (j : Nat) d (i : Nat) = if i ≤ j ∧ ¬ gN d a < gN d i then some (.inl (d, ((i + 1 : Nat) : Int))) else some (.inr (d, (i : Int))) := by
  intro i hi
  unfold dL
  rw [wrN (x := (i : Int) + 1) (n := i + 1) (by omega) (by omega)]
  exact GW (u := a) (v := i) (by omega) (by omega)

theorem UD {a i m : Nat} {d : List Int} (hi : 1 ≤ i) (ha : a < d.length) (hm : m < d.length) (hl : d.length < 2305843009213693951) : ∀ j, j ≤ m → dN (a : Nat) (i : Nat) d (j : Nat) = if i ≤ j ∧ gN d a < gN d j then some (.inl (d, ((j - 1 : Nat) : Int))) else some (.inr (d, (j : Int))) := by
  intro j hj
  unfold dN
  refine (GU (i := i) (j := j) (d := d) (α := (List Int × Int) ⊕ (List Int × Int)) (u := a) (v := j) (x := some (.inl (d, IntKind.i64.wrap ((j : Int) - 1)))) (y := some (.inr (d, (j : Int)))) (by omega) (by omega)).trans ?_
  by_cases h : i ≤ j ∧ gN d a < gN d j
  · rw [if_pos h, if_pos h, wrN (x := (j : Int) - 1) (n := j - 1) (by omega) (by omega)]
  · rw [if_neg h, if_neg h]

structure xT (a b i j : Nat) (d : List Int) : Prop where
  hi : a < i
  hij : i ≤ j + 1
  hj : j < b
  lo : ∀ k, a < k → k < i → gN d k < gN d a
  up : ∀ k, j < k → k < b → gN d a ≤ gN d k

theorem xT.swap {a b i j : Nat} {d : List Int} (h : xT a b i j d) (hb : b ≤ d.length) (hij : i < j) (h1 : gN d a ≤ gN d i) (h2 : gN d j < gN d a) : xT a b (i + 1) (j - 1) (swp d i j) := by
  have := h.hi; have := h.hj
  have g := rT (d := d) (i := i) (j := j) (by omega) (by omega)
  have ga : gN (swp d i j) a = gN d a := by rw [g, if_neg (by omega), if_neg (by omega)]
  refine ⟨by omega, by omega, by omega, fun k k1 k2 => ?_, fun k k1 k2 => ?_⟩
  · rw [ga, g, if_neg (by omega)]
    by_cases hk : k = i
    · rw [if_pos hk]; exact h2
    · rw [if_neg hk]; exact h.lo k k1 (by omega)
  · rw [ga, g]
    by_cases hk : k = j
    · rw [if_pos hk]; exact h1
    · rw [if_neg hk, if_neg (by omega)]; exact h.up k (by omega) k2

theorem JG {a b i j : Nat} {d : List Int} (h : xT a b i j d) (hb : b ≤ d.length) (hl : d.length < 2305843009213693951) : ∃ i' j' : Nat, xT a b i' j' d ∧ i ≤ i' ∧ j' ≤ j ∧ (j' < i' → j' + 1 = i') ∧ (i' ≤ j' → i' < j' ∧ gN d a ≤ gN d i' ∧ gN d j' < gN d a) ∧
    dA (a : Nat) d (i : Nat) (j : Nat) = eO d (a : Nat) (i' : Nat) (j' : Nat) ∧ fG d (a : Nat) (i : Nat) (j : Nat) = eG d (a : Nat) (i' : Nat) (j' : Nat) := by
  have h1 := h.hi; have h2 := h.hij; have h3 := h.hj
  obtain ⟨i', e1, a1, a2, a3, a4⟩ := KB (body := fun s => eM (a : Nat) (j : Nat) s.1 s.2) (d := d) (p := fun k => gN d k < gN d a) (j := j) (ZN (a := a) (j := j) (d := d) (by omega) (by omega) hl) (j + 1 - i) i rfl h2
  obtain ⟨i2, e1', b1, b2, b3, b4⟩ := KB (body := fun s => eD (a : Nat) (j : Nat) s.1 s.2) (d := d) (p := fun k => gN d k < gN d a) (j := j) (aBA (a := a) (j := j) (d := d) (by omega) (by omega) hl) (j + 1 - i) i rfl h2
  have hii : i2 = i' := by
    rcases Nat.lt_trichotomy i2 i' with hh | hh | hh
    · exact absurd (a3 i2 b1 hh) (b4 (by omega))
    · exact hh
    · exact absurd (b3 i' a1 hh) (a4 (by omega))
  subst hii
  obtain ⟨j', f1, c1, c2, c3, c4⟩ := CY (body := fun s => eN (a : Nat) (i2 : Nat) s.1 s.2) (d := d) (p := fun k => ¬ gN d k < gN d a) (i := i2) (m := j) (by omega) (VW (a := a) (i := i2) (m := j) (d := d) (by omega) (by omega) (by omega) hl) j (Nat.le_refl _) a2
  obtain ⟨j2, f1', g1, g2, g3, g4⟩ := CY (body := fun s => eJ (a : Nat) (i2 : Nat) s.1 s.2) (d := d) (p := fun k => ¬ gN d k < gN d a) (i := i2) (m := j) (by omega) (XC (a := a) (i := i2) (m := j) (d := d) (by omega) (by omega) (by omega) hl) j (Nat.le_refl _) a2
  have hjj : j2 = j' := by
    rcases Nat.lt_trichotomy j2 j' with hh | hh | hh
    · exact absurd (g3 j' hh c2) (c4 (by omega))
    · exact hh
    · exact absurd (c3 j2 hh g2) (g4 (by omega))
  subst hjj
  have hend : i2 ≤ j2 → i2 < j2 ∧ gN d a ≤ gN d i2 ∧ gN d j2 < gN d a := fun hh => by
    have k1 : ¬ gN d i2 < gN d a := a4 (by omega)
    have k2 : gN d j2 < gN d a := Classical.byContradiction fun hn => c4 hh hn
    refine ⟨?_, by omega, k2⟩
    rcases Nat.lt_or_ge i2 j2 with h | h
    · exact h
    · have : i2 = j2 := by omega
      rw [this] at k1; exact absurd k2 k1
  refine ⟨i2, j2, ⟨by omega, by omega, by omega, fun k k1 k2 => ?_, fun k k1 k2 => ?_⟩, a1, c2, fun hh => by omega, hend, ?_, ?_⟩
  · by_cases hk : k < i
    · exact h.lo k k1 hk
    · exact a3 k (by omega) k2
  · by_cases hk : j < k
    · exact h.up k hk k2
    · have := c3 k k1 (by omega); omega
  · unfold dA jU
    rw [show lp (fun s : List Int × Int => eM (a : Nat) (j : Nat) s.1 s.2) (d, (i : Int)) = some (d, (i2 : Int)) from e1]
    simp only [Option.bind_some]
    unfold iM jW
    rw [show lp (fun s : List Int × Int => eN (a : Nat) (i2 : Nat) s.1 s.2) (d, (j : Int)) = some (d, (j2 : Int)) from f1]
    rfl
  · unfold fG
    rw [show lp (fun s : List Int × Int => eD (a : Nat) (j : Nat) s.1 s.2) (d, (i : Int)) = some (d, (i2 : Int)) from e1']
    simp only [Option.bind_some]
    unfold iK jX
    rw [show lp (fun s : List Int × Int => eJ (a : Nat) (i2 : Nat) s.1 s.2) (d, (j : Int)) = some (d, (j2 : Int)) from f1']
    rfl

theorem xT.rel {a b i j : Nat} {d : List Int} (h : xT a b i j d) (hb : b ≤ d.length) (hij : i ≤ j) : Rel (a + 1) b d (swp d i j) := by
  have := h.hi; have := h.hj
  exact Rel.swp (i := i) (j := j) (by omega) (by omega) (by omega) (by omega)

theorem aBv {a b : Nat} : ∀ (n i j : Nat) (d : List Int), j + 1 - i = n → b ≤ d.length → d.length < 2305843009213693951 → xT a b i j d →
    ∃ (d' : List Int) (j' : Nat), lp (fun s : List Int × Int × Int => dA (a : Nat) s.1 s.2.1 s.2.2) (d, (i : Int), (j : Int)) = some (d', (j' : Int)) ∧ Rel (a + 1) b d d' ∧ xT a b (j' + 1) j' d' := by
  intro n
  induction n using Nat.strongRecOn with
  | ind n ih =>
    intro i j d h1 h2 h3 h
    obtain ⟨i', j', p1, p2, p3, p4, p5, p6, _⟩ := JG h h2 h3
    have q1 := p1.hi; have q2 := p1.hj; have q3 := p1.hij
    by_cases hlt : j' < i'
    · have hs : dA (a : Nat) d (i : Nat) (j : Nat) = some (.inr (d, (j' : Int))) := by
        rw [p6]
        unfold eO
        have : decide ((j' : Int) < (i' : Int)) = true := by simp; omega
        rw [this, cond_true]
      have := p4 hlt
      exact ⟨d, j', cU hs, Rel.refl .., by rw [this]; exact p1⟩
    · obtain ⟨k1, k2, k3⟩ := p5 (by omega)
      have hs : dA (a : Nat) d (i : Nat) (j : Nat) = some (.inl (swp d i' j', ((i' + 1 : Nat) : Int), ((j' - 1 : Nat) : Int))) := by
        rw [p6]
        unfold eO
        have : decide ((j' : Int) < (i' : Int)) = false := by simp; omega
        rw [this, cond_false]
        simp only [Int.toNat_natCast]
        rw [aP (asN (by omega)), aP (asN (by omega)), aP (asN (by omega)), aP (asN (by omega)), wrN (x := (i' : Int) + 1) (n := i' + 1) (by omega) (by omega), wrN (x := (j' : Int) - 1) (n := j' - 1) (by omega) (by omega)]
        rfl
      obtain ⟨d', j2, e, r, p⟩ := ih (j' - 1 + 1 - (i' + 1)) (by omega) (i' + 1) (j' - 1) (swp d i' j') rfl (by rw [gT]; exact h2) (by rw [gT]; exact h3) (p1.swap h2 k1 k2 k3)
      exact ⟨d', j2, (gH hs).trans e, (p1.rel h2 (by omega)).trans r, p⟩

theorem RO {a b j : Nat} {d : List Int} (h : xT a b (j + 1) j d) (hb : b ≤ d.length) : Rel a b d (swp d j a) ∧ (∀ k, a ≤ k → k < j → gN (swp d j a) k ≤ gN (swp d j a) j) ∧ (∀ k, j < k → k < b → gN (swp d j a) j ≤ gN (swp d j a) k) := by
  have h1 := h.hi; have h3 := h.hj
  have g := rT (d := d) (i := j) (j := a) (by omega) (by omega)
  have gj : gN (swp d j a) j = gN d a := by
    rw [g]
    by_cases hh : j = a
    · rw [if_pos hh, hh]
    · rw [if_neg hh, if_pos rfl]
  refine ⟨Rel.swp (i := j) (j := a) (by omega) (by omega) (by omega) (by omega), fun k k1 k2 => ?_, fun k k1 k2 => ?_⟩
  · rw [gj, g]
    by_cases hk : k = a
    · rw [if_pos hk]
      have := h.lo j (by omega) (by omega); omega
    · rw [if_neg hk, if_neg (by omega)]
      have := h.lo k (by omega) (by omega); omega
  · rw [gj, g, if_neg (by omega), if_neg (by omega)]
    exact h.up k k1 k2

theorem OZ {lo hi p : Nat} {d : List Int} (h0 : lo < hi) (hb : hi ≤ d.length) (hl : d.length < 2305843009213693951) (hp : lo ≤ p ∧ p < hi) :
    ∃ (m : Nat) (fl : Bool) (d' : List Int), gF d (lo : Int) (hi : Int) (p : Int) = some (((m : Int), fl), d') ∧ lo ≤ m ∧ m < hi ∧ Rel lo hi d d' ∧ (∀ k, lo ≤ k → k < m → gN d' k ≤ gN d' m) ∧ (∀ k, m < k → k < hi → gN d' m ≤ gN d' k) := by
  unfold gF
  rw [aP (asN (by omega)), aP (asN (by omega)), aP (asN (by omega)), aP (asN (by omega)), wrN (x := (lo : Int) + 1) (n := lo + 1) (by omega) (by omega), wrN (x := (hi : Int) - 1) (n := hi - 1) (by omega) (by omega)]
  simp only [Int.toNat_natCast]
  have r0 : Rel lo hi d (swp d lo p) := Rel.swp (i := lo) (j := p) (by omega) (by omega) (by omega) (by omega)
  have l0 : (swp d lo p).length = d.length := gT ..
  have inv : xT lo hi (lo + 1) (hi - 1) (swp d lo p) := ⟨by omega, by omega, by omega, fun k k1 k2 => by omega, fun k k1 k2 => by omega⟩
  obtain ⟨i', j', p1, p2, p3, p4, p5, _, p6⟩ := JG inv (by rw [l0]; exact hb) (by rw [l0]; exact hl)
  have e0 : fG (List.set (List.set d lo (List.getD d p default)) p (List.getD d lo default)) (lo : Int) ((lo + 1 : Nat) : Int) ((hi - 1 : Nat) : Int) = eG (swp d lo p) (lo : Nat) (i' : Nat) (j' : Nat) := p6
  rw [e0]
  have q1 := p1.hi; have q2 := p1.hj; have q3 := p1.hij
  generalize hg : swp d lo p = d1 at *
  unfold eG
  by_cases hlt : j' < i'
  · have : decide ((j' : Int) < (i' : Int)) = true := by simp; omega
    rw [this, cond_true]
    simp only [Int.toNat_natCast]
    rw [aP (asN (by omega)), aP (asN (by omega)), aP (asN (by omega)), aP (asN (by omega))]
    have hp1 : xT lo hi (j' + 1) j' d1 := by rw [p4 hlt]; exact p1
    obtain ⟨r, a1, a2⟩ := RO hp1 (by omega)
    exact ⟨j', true, swp d1 j' lo, rfl, by omega, by omega, r0.trans r, a1, a2⟩
  · obtain ⟨k1, k2, k3⟩ := p5 (by omega)
    have : decide ((j' : Int) < (i' : Int)) = false := by simp; omega
    rw [this, cond_false]
    simp only [Int.toNat_natCast]
    rw [aP (asN (by omega)), aP (asN (by omega)), aP (asN (by omega)), aP (asN (by omega)), wrN (x := (i' : Int) + 1) (n := i' + 1) (by omega) (by omega), wrN (x := (j' : Int) - 1) (n := j' - 1) (by omega) (by omega)]
    obtain ⟨d2, j2, e, r, pp⟩ := aBv (a := lo) (b := hi) (j' - 1 + 1 - (i' + 1)) (i' + 1) (j' - 1) (swp d1 i' j') rfl (by rw [gT]; omega) (by rw [gT]; omega) (p1.swap (by omega) k1 k2 k3)
    have w1 := pp.hi; have w2 := pp.hj
    have l2 : d2.length = d1.length := by rw [r.len, gT]
    unfold jY
    rw [show lp (fun s : List Int × Int × Int => dA (lo : Int) s.1 s.2.1 s.2.2) ((List.set (List.set d1 i' (List.getD d1 j' default)) j' (List.getD d1 i' default)), ((i' + 1 : Nat) : Int), ((j' - 1 : Nat) : Int)) = some (d2, (j2 : Int)) from e]
    simp only [Option.bind_some, iI, Int.toNat_natCast]
    rw [aP (asN (by omega)), aP (asN (by omega)), aP (asN (by omega)), aP (asN (by omega))]
    obtain ⟨rr, a1, a2⟩ := RO pp (by omega)
    exact ⟨j2, false, swp d2 j2 lo, rfl, by omega, by omega, ((r0.trans ((p1.rel (by omega) (by omega)).mono (by omega) (Nat.le_refl _))).trans (r.mono (by omega) (Nat.le_refl _))).trans rr, a1, a2⟩

end Go.Abs
namespace Go.Abs
open Go
structure DG (a b i j : Nat) (d : List Int) : Prop where
  hi : a < i
  hij : i ≤ j + 1
  hj : j < b
  lo : ∀ k, a < k → k < i → gN d k ≤ gN d a
  up : ∀ k, j < k → k < b → gN d a < gN d k

theorem DG.swap {a b i j : Nat} {d : List Int} (h : DG a b i j d) (hb : b ≤ d.length) (hij : i < j) (h1 : gN d a < gN d i) (h2 : gN d j ≤ gN d a) : DG a b (i + 1) (j - 1) (swp d i j) := by
  have := h.hi; have := h.hj
  have g := rT (d := d) (i := i) (j := j) (by omega) (by omega)
  have ga : gN (swp d i j) a = gN d a := by rw [g, if_neg (by omega), if_neg (by omega)]
  refine ⟨by omega, by omega, by omega, fun k k1 k2 => ?_, fun k k1 k2 => ?_⟩
  · rw [ga, g, if_neg (by omega)]
    by_cases hk : k = i
    · rw [if_pos hk]; exact h2
    · rw [if_neg hk]; exact h.lo k k1 (by omega)
  · rw [ga, g]
    by_cases hk : k = j
    · rw [if_pos hk]; exact h1
    · rw [if_neg hk, if_neg (by omega)]; exact h.up k (by omega) k2

theorem SI {a b i j : Nat} {d : List Int} (h : DG a b i j d) (hb : b ≤ d.length) (hl : d.length < 2305843009213693951) : ∃ i' j' : Nat, DG a b i' j' d ∧ i ≤ i' ∧ j' ≤ j ∧ (j' < i' → j' + 1 = i') ∧ (i' ≤ j' → i' < j' ∧ gN d a < gN d i' ∧ gN d j' ≤ gN d a) ∧
    cO (a : Nat) d (i : Nat) (j : Nat) = dP d (a : Nat) (i' : Nat) (j' : Nat) := by
  have h1 := h.hi; have h2 := h.hij; have h3 := h.hj
  obtain ⟨i', e1, a1, a2, a3, a4⟩ := KB (body := fun s => dL (a : Nat) (j : Nat) s.1 s.2) (d := d) (p := fun k => ¬ gN d a < gN d k) (j := j) (aAf (a := a) (j := j) (d := d) (by omega) (by omega) hl) (j + 1 - i) i rfl h2
  obtain ⟨j', f1, c1, c2, c3, c4⟩ := CY (body := fun s => dN (a : Nat) (i' : Nat) s.1 s.2) (d := d) (p := fun k => gN d a < gN d k) (i := i') (m := j) (by omega) (UD (a := a) (i := i') (m := j) (d := d) (by omega) (by omega) (by omega) hl) j (Nat.le_refl _) a2
  have hend : i' ≤ j' → i' < j' ∧ gN d a < gN d i' ∧ gN d j' ≤ gN d a := fun hh => by
    have k1 : gN d a < gN d i' := Classical.byContradiction fun hn => a4 (by omega) hn
    have k2 : ¬ gN d a < gN d j' := c4 hh
    refine ⟨?_, k1, by omega⟩
    rcases Nat.lt_or_ge i' j' with h | h
    · exact h
    · have : i' = j' := by omega
      rw [this] at k1; exact absurd k1 k2
  refine ⟨i', j', ⟨by omega, by omega, by omega, fun k k1 k2 => ?_, fun k k1 k2 => ?_⟩, a1, c2, fun hh => by omega, hend, ?_⟩
  · by_cases hk : k < i
    · exact h.lo k k1 hk
    · have := a3 k (by omega) k2; omega
  · by_cases hk : j < k
    · exact h.up k hk k2
    · exact c3 k k1 (by omega)
  · unfold cO iU
    rw [show lp (fun s : List Int × Int => dL (a : Nat) (j : Nat) s.1 s.2) (d, (i : Int)) = some (d, (i' : Int)) from e1]
    simp only [Option.bind_some]
    unfold fP iR
    rw [show lp (fun s : List Int × Int => dN (a : Nat) (i' : Nat) s.1 s.2) (d, (j : Int)) = some (d, (j' : Int)) from f1]
    rfl

theorem aAS {a b : Nat} : ∀ (n i j : Nat) (d : List Int), j + 1 - i = n → b ≤ d.length → d.length < 2305843009213693951 → DG a b i j d →
    ∃ (d' : List Int) (j' : Nat), lp (fun s : List Int × Int × Int => cO (a : Nat) s.1 s.2.1 s.2.2) (d, (i : Int), (j : Int)) = some (d', ((j' + 1 : Nat) : Int)) ∧ Rel (a + 1) b d d' ∧ DG a b (j' + 1) j' d' := by
  intro n
  induction n using Nat.strongRecOn with
  | ind n ih =>
    intro i j d h1 h2 h3 h
    obtain ⟨i', j', p1, p2, p3, p4, p5, p6⟩ := SI h h2 h3
    have q1 := p1.hi; have q2 := p1.hj; have q3 := p1.hij
    by_cases hlt : j' < i'
    · have hs : cO (a : Nat) d (i : Nat) (j : Nat) = some (.inr (d, (i' : Int))) := by
        rw [p6]
        unfold dP
        have : decide ((j' : Int) < (i' : Int)) = true := by simp; omega
        rw [this, cond_true]
      have := p4 hlt
      exact ⟨d, j', by rw [this]; exact cU hs, Rel.refl .., by rw [this]; exact p1⟩
    · obtain ⟨k1, k2, k3⟩ := p5 (by omega)
      have hs : cO (a : Nat) d (i : Nat) (j : Nat) = some (.inl (swp d i' j', ((i' + 1 : Nat) : Int), ((j' - 1 : Nat) : Int))) := by
        rw [p6]
        unfold dP
        have : decide ((j' : Int) < (i' : Int)) = false := by simp; omega
        rw [this, cond_false]
        simp only [Int.toNat_natCast]
        rw [aP (asN (by omega)), aP (asN (by omega)), aP (asN (by omega)), aP (asN (by omega)), wrN (x := (i' : Int) + 1) (n := i' + 1) (by omega) (by omega), wrN (x := (j' : Int) - 1) (n := j' - 1) (by omega) (by omega)]
        rfl
      obtain ⟨d', j2, e, r, p⟩ := ih (j' - 1 + 1 - (i' + 1)) (by omega) (i' + 1) (j' - 1) (swp d i' j') rfl (by rw [gT]; exact h2) (by rw [gT]; exact h3) (p1.swap h2 k1 k2 k3)
      exact ⟨d', j2, (gH hs).trans e, (Rel.swp (i := i') (j := j') (by omega) (by omega) (by omega) (by omega)).trans r, p⟩

theorem NF {lo hi p : Nat} {d : List Int} (h0 : lo < hi) (hb : hi ≤ d.length) (hl : d.length < 2305843009213693951) (hp : lo ≤ p ∧ p < hi) :
    ∃ (m : Nat) (d' : List Int), eR d (lo : Int) (hi : Int) (p : Int) = some ((m : Int), d') ∧ lo < m ∧ m ≤ hi ∧ Rel lo hi d d' ∧ (∀ k, lo ≤ k → k < m → gN d' k ≤ gN d p) ∧ (∀ k, m ≤ k → k < hi → gN d p < gN d' k) := by
  unfold eR
  rw [aP (asN (by omega)), aP (asN (by omega)), aP (asN (by omega)), aP (asN (by omega)), wrN (x := (lo : Int) + 1) (n := lo + 1) (by omega) (by omega), wrN (x := (hi : Int) - 1) (n := hi - 1) (by omega) (by omega)]
  simp only [Int.toNat_natCast]
  have r0 : Rel lo hi d (swp d lo p) := Rel.swp (i := lo) (j := p) (by omega) (by omega) (by omega) (by omega)
  have l0 : (swp d lo p).length = d.length := gT ..
  have g := rT (d := d) (i := lo) (j := p) (by omega) (by omega)
  have g0 : gN (swp d lo p) lo = gN d p := by
    rw [g]
    by_cases hh : lo = p
    · rw [if_pos hh, hh]
    · rw [if_neg hh, if_pos rfl]
  have inv : DG lo hi (lo + 1) (hi - 1) (swp d lo p) := ⟨by omega, by omega, by omega, fun k k1 k2 => by omega, fun k k1 k2 => by omega⟩
  obtain ⟨d', j', e, r, pp⟩ := aAS (a := lo) (b := hi) (hi - 1 + 1 - (lo + 1)) (lo + 1) (hi - 1) (swp d lo p) rfl (by rw [l0]; exact hb) (by rw [l0]; exact hl) inv
  have w1 := pp.hi; have w2 := pp.hj
  have ga : gN d' lo = gN d p := by rw [r.out lo (by omega), g0]
  unfold iV
  rw [show lp (fun s : List Int × Int × Int => cO (lo : Int) s.1 s.2.1 s.2.2) ((List.set (List.set d lo (List.getD d p default)) p (List.getD d lo default)), ((lo + 1 : Nat) : Int), ((hi - 1 : Nat) : Int)) = some (d', ((j' + 1 : Nat) : Int)) from e]
  refine ⟨j' + 1, d', rfl, by omega, by omega, r0.trans (r.mono (by omega) (Nat.le_refl _)), fun k k1 k2 => ?_, fun k k1 k2 => ?_⟩
  · rw [← ga]
    by_cases hk : k = lo
    · rw [hk]; exact Int.le_refl _
    · exact pp.lo k (by omega) k2
  · rw [← ga]; exact pp.up k (by omega) k2

theorem TY {lo i : Nat} {d : List Int} : ∀ (n i' : Nat), i' - i = n → oO lo i d → lo < i → (∀ k, i ≤ k → k < i' → gN d (k - 1) ≤ gN d k) → oO lo i' d
  | 0, i', h, hs, _, _ => fun p q p1 p2 p3 => hs p q p1 p2 (by omega)
  | n + 1, i', h, hs, hl, hk => by
    have ih := TY (d := d) n (i' - 1) (by omega) hs hl fun k k1 k2 => hk k k1 (by omega)
    intro p q p1 p2 p3
    by_cases hq : q = i' - 1
    · by_cases hp : p = q
      · rw [hp]; exact Int.le_refl _
      · have h1 := hk q (by omega) (by omega)
        have h2 := ih p (q - 1) p1 (by omega) (by omega)
        omega
    · exact ih p q p1 p2 (by omega)

theorem ZO {lo hi : Nat} {d : List Int} (x : Int) (hb : hi ≤ d.length) (hl : d.length < 2305843009213693951) : ∀ (n i : Nat), hi - i = n → 1 ≤ i → i ≤ hi →
    ∃ i' : Nat, lp (fun s : List Int × Int => cL (lo : Nat) (hi : Nat) x s.1 s.2) (d, (i : Int)) = some (d, (i' : Int)) ∧ i ≤ i' ∧ i' ≤ hi ∧ (∀ k, i ≤ k → k < i' → gN d (k - 1) ≤ gN d k) := by
  intro n
  induction n with
  | zero =>
    intro i h1 h2 h3
    refine ⟨i, cU ?_, Nat.le_refl _, h3, fun k k1 k2 => by omega⟩
    show cL _ _ _ _ _ = _
    have : decide ((i : Int) < (hi : Int)) = false := by simp; omega
    simp only [cL, this]
    rw [aP (fun h => by cases h), aP (fun h => by cases h)]
    rfl
  | succ n ih =>
    intro i h1 h2 h3
    have hd : decide ((i : Int) < (hi : Int)) = true := by simp; omega
    have hs : cL (lo : Nat) (hi : Nat) x d (i : Nat) = if gN d i < gN d (i - 1) then some (.inr (d, (i : Int))) else some (.inl (d, ((i + 1 : Nat) : Int))) := by
      unfold cL
      rw [hd, wrN (x := (i : Int) - 1) (n := i - 1) (by omega) (by omega), wrN (x := (i : Int) + 1) (n := i + 1) (by omega) (by omega), aP fun _ => asN (by omega), aP fun _ => asN (by omega)]
      simp only [cW, cond_true, qH, Option.bind_some, Bool.true_and, Int.toNat_natCast, gN]
      by_cases h : d.getD i default < d.getD (i - 1) default <;> simp [h]
    by_cases h : gN d i < gN d (i - 1)
    · rw [if_pos h] at hs
      exact ⟨i, cU hs, Nat.le_refl _, h3, fun k k1 k2 => by omega⟩
    · rw [if_neg h] at hs
      obtain ⟨i', e, a1, a2, a3⟩ := ih (i + 1) (by omega) (by omega) (by omega)
      refine ⟨i', (gH hs).trans e, by omega, a2, fun k k1 k2 => ?_⟩
      by_cases hk : k = i
      · rw [hk]; omega
      · exact a3 k (by omega) k2

theorem FC {lo hi : Nat} {d d' : List Int} (r : Rel lo hi d d') (h : lo = 0 ∨ ∀ k, lo ≤ k → k < hi → gN d (lo - 1) ≤ gN d k) : lo = 0 ∨ ∀ k, lo ≤ k → k < hi → gN d' (lo - 1) ≤ gN d' k := by
  by_cases h0 : lo = 0
  · exact .inl h0
  · rcases h with h | h
    · exact .inl h
    · exact .inr fun k k1 k2 => by
        rw [r.out (lo - 1) (by omega)]
        exact r.all (p := fun v => gN d (lo - 1) ≤ v) h k k1 k2

theorem ZV {lo hi i : Nat} (x y : Int) : ∀ (j : Nat) (d : List Int), lo ≤ j → j ≤ i → i < d.length → d.length < 2305843009213693951 → DM lo j i d → (lo = 0 ∨ ∀ k, lo ≤ k → k ≤ i → gN d (lo - 1) ≤ gN d k) →
    ∃ d', lp (fun s : List Int × Int => cE (lo : Nat) (hi : Nat) x y s.1 s.2) (d, (j : Int)) = some d' ∧ Rel lo (i + 1) d d' ∧ oO lo (i + 1) d' := by
  intro j
  induction j with
  | zero =>
    intro d h1 h2 h3 h4 h5 h6
    refine ⟨d, cU ?_, Rel.refl .., h5.done h1 (by omega)⟩
    show cE _ _ _ _ _ _ = _
    have : decide ((1 : Int) ≤ ((0 : Nat) : Int)) = false := by simp
    simp only [cE, this, cond_false]
  | succ j ih =>
    intro d h1 h2 h3 h4 h5 h6
    have hd : decide ((1 : Int) ≤ ((j + 1 : Nat) : Int)) = true := by simp; omega
    have hs : cE (lo : Nat) (hi : Nat) x y d ((j + 1 : Nat) : Int) = if gN d (j + 1) < gN d j then some (.inl (swp d (j + 1) j, (j : Int))) else some (.inr d) := by
      unfold cE
      rw [hd, cond_true, wrN (x := ((j + 1 : Nat) : Int) - 1) (n := j) (by omega) (by omega), aP (asN (by omega)), aP (asN (by omega))]
      simp only [qH, Option.bind_some, Int.toNat_natCast, gN]
      by_cases h : d.getD (j + 1) default < d.getD j default
      · simp only [h, decide_true, Bool.not_true, cond_false, if_true]
        rw [aP (asN (by omega)), aP (asN (by omega)), aP (asN (by omega)), aP (asN (by omega))]
        rfl
      · simp only [h, decide_false, Bool.not_false, cond_true, if_false]
    by_cases h : gN d (j + 1) < gN d j
    · rw [if_pos h] at hs
      have hlo : lo < j + 1 := by
        rcases h6 with h6 | h6
        · omega
        · rcases Nat.lt_or_ge lo (j + 1) with hh | hh
          · exact hh
          · have : lo = j + 1 := by omega
            have h7 := h6 (j + 1) (by omega) h2
            rw [this] at h7
            simp only [Nat.add_sub_cancel] at h7
            omega
      have r1 : Rel lo (i + 1) d (swp d (j + 1) j) := Rel.swp (i := j + 1) (j := j) (by omega) (by omega) (by omega) (by omega)
      obtain ⟨d', e, r, s⟩ := ih (swp d (j + 1) j) (by omega) (by omega) (by rw [gT]; exact h3) (by rw [gT]; exact h4) (h5.next hlo h2 h3 h) ((FC r1 (h6.imp id fun h k a b => h k a (by omega))).imp id fun h k a b => h k a (by omega))
      exact ⟨d', (gH hs).trans e, r1.trans r, s⟩
    · rw [if_neg h] at hs
      exact ⟨d, cU hs, Rel.refl .., h5.done h1 fun hh => h hh.2⟩

theorem aB9 {lo hi i : Nat} (x y : Int) : ∀ (n j : Nat) (d : List Int), hi - j = n → i < j → hi ≤ d.length → d.length < 2305843009213693951 →
    ∃ d', lp (fun s : List Int × Int => cM (lo : Nat) (hi : Nat) x y s.1 s.2) (d, (j : Int)) = some d' ∧ Rel i hi d d' := by
  intro n
  induction n with
  | zero =>
    intro j d h1 h2 h3 h4
    refine ⟨d, cU ?_, Rel.refl ..⟩
    show cM _ _ _ _ _ _ = _
    have : decide ((j : Int) < (hi : Int)) = false := by simp; omega
    simp only [cM, this, cond_false]
  | succ n ih =>
    intro j d h1 h2 h3 h4
    have hd : decide ((j : Int) < (hi : Int)) = true := by simp; omega
    have hs : cM (lo : Nat) (hi : Nat) x y d (j : Nat) = if gN d j < gN d (j - 1) then some (.inl (swp d j (j - 1), ((j + 1 : Nat) : Int))) else some (.inr d) := by
      unfold cM
      rw [hd, cond_true, wrN (x := (j : Int) - 1) (n := j - 1) (by omega) (by omega), wrN (x := (j : Int) + 1) (n := j + 1) (by omega) (by omega), aP (asN (by omega)), aP (asN (by omega))]
      simp only [qH, Option.bind_some, Int.toNat_natCast, gN]
      by_cases h : d.getD j default < d.getD (j - 1) default
      · simp only [h, decide_true, Bool.not_true, cond_false, if_true]
        rw [aP (asN (by omega)), aP (asN (by omega)), aP (asN (by omega)), aP (asN (by omega))]
        rfl
      · simp only [h, decide_false, Bool.not_false, cond_true, if_false]
    by_cases h : gN d j < gN d (j - 1)
    · rw [if_pos h] at hs
      obtain ⟨d', e, r⟩ := ih (j + 1) (swp d j (j - 1)) (by omega) (by omega) (by rw [gT]; exact h3) (by rw [gT]; exact h4)
      exact ⟨d', (gH hs).trans e, (Rel.swp (i := j) (j := j - 1) (by omega) (by omega) (by omega) (by omega)).trans r⟩
    · rw [if_neg h] at hs
      exact ⟨d, cU hs, Rel.refl ..⟩

theorem YP {lo hi i : Nat} (x : Int) {d : List Int} (h1 : lo < i) (h2 : i < hi) (h3 : hi ≤ d.length) (h4 : d.length < 2305843009213693951) :
    ∃ d', cF d (lo : Nat) (hi : Nat) (i : Nat) x = some (.inl (d', (i : Int), IntKind.i64.wrap (x + 1))) ∧ Rel i hi d d' := by
  unfold cF
  rw [wrN (x := (hi : Int) - (i : Int)) (n := hi - i) (by omega) (by omega)]
  by_cases h : (2 : Int) ≤ ((hi - i : Nat) : Int)
  · simp only [h, decide_true, cond_true]
    unfold fV
    rw [wrN (x := (i : Int) + 1) (n := i + 1) (by omega) (by omega)]
    obtain ⟨d', e, r⟩ := aB9 (lo := lo) (hi := hi) (i := i) (i : Int) x (hi - (i + 1)) (i + 1) d rfl (by omega) h3 h4
    rw [e]
    exact ⟨d', rfl, r⟩
  · simp only [h, decide_false, cond_false]
    exact ⟨d, rfl, Rel.refl ..⟩

theorem aAm {lo hi i : Nat} (x : Int) {d : List Int} (h1 : lo < i) (h2 : i ≤ hi) (h3 : hi ≤ d.length) (h4 : d.length < 2305843009213693951) (hs : oO lo i d) (hb : lo = 0 ∨ ∀ k, lo ≤ k → k < hi → gN d (lo - 1) ≤ gN d k) :
    (∃ (fl : Bool) (d' : List Int), cT d (lo : Nat) (hi : Nat) (i : Nat) x = some (.inr (.inr (fl, d'))) ∧ Rel lo hi d d' ∧ (fl = true → oO lo hi d')) ∨
    (∃ (d' : List Int) (i' : Nat), cT d (lo : Nat) (hi : Nat) (i : Nat) x = some (.inl (d', (i' : Int), IntKind.i64.wrap (x + 1))) ∧ Rel lo hi d d' ∧ lo < i' ∧ i' ≤ hi ∧ oO lo i' d') := by
  unfold cT
  obtain ⟨i', e, a1, a2, a3⟩ := ZO (lo := lo) (hi := hi) x h3 h4 (hi - i) i rfl (by omega) h2
  rw [e]
  simp only [Option.bind_some]
  have hs' := TY (i' - i) i' rfl hs h1 a3
  unfold eE
  by_cases hi' : i' = hi
  · have : decide ((i' : Int) = (hi : Int)) = true := by simp; omega
    rw [this, cond_true]
    left
    exact ⟨true, d, rfl, Rel.refl .., fun _ => hi' ▸ hs'⟩
  · have hne : decide ((i' : Int) = (hi : Int)) = false := by simp; omega
    rw [hne, cond_false, wrN (x := (hi : Int) - (lo : Int)) (n := hi - lo) (by omega) (by omega)]
    by_cases h50 : ((hi - lo : Nat) : Int) < 50
    · simp only [h50, decide_true, cond_true]
      left
      exact ⟨false, d, rfl, Rel.refl .., fun h => by cases h⟩
    · simp only [h50, decide_false, cond_false]
      rw [wrN (x := (i' : Int) - 1) (n := i' - 1) (by omega) (by omega), wrN (x := (i' : Int) - (lo : Int)) (n := i' - lo) (by omega) (by omega)]
      simp only [Int.toNat_natCast]
      rw [aP (asN (by omega)), aP (asN (by omega)), aP (asN (by omega)), aP (asN (by omega))]
      have r1 : Rel lo hi d (swp d i' (i' - 1)) := Rel.swp (i := i') (j := i' - 1) (by omega) (by omega) (by omega) (by omega)
      have l1 : (swp d i' (i' - 1)).length = d.length := gT ..
      have g := rT (d := d) (i := i') (j := i' - 1) (by omega) (by omega)
      right
      by_cases hge : (2 : Int) ≤ ((i' - lo : Nat) : Int)
      · simp only [hge, decide_true, cond_true]
        unfold fU
        have ins : DM lo (i' - 1) (i' - 1) (swp d i' (i' - 1)) := ⟨fun p q p1 p2 p3 p4 p5 => by
          rw [g, g, if_neg p4, if_neg p5, if_neg (by omega), if_neg (by omega)]
          exact hs' p q p1 p2 (by omega), fun q q1 q2 => by omega⟩
        obtain ⟨d2, e2, r2, s2⟩ := ZV (lo := lo) (hi := hi) (i := i' - 1) (i' : Int) x (i' - 1) (swp d i' (i' - 1)) (by omega) (Nat.le_refl _) (by rw [l1]; omega) (by rw [l1]; exact h4) ins ((FC r1 hb).imp id fun h k a b => h k a (by omega))
        have e2' : lp (fun s : List Int × Int => cE (lo : Int) (hi : Int) (i' : Int) x s.1 s.2) ((List.set (List.set d i' (List.getD d (i' - 1) default)) (i' - 1) (List.getD d i' default)), ((i' - 1 : Nat) : Int)) = some d2 := e2
        rw [e2']
        simp only [Option.bind_some]
        rw [show i' - 1 + 1 = i' by omega] at r2 s2
        have l2 : d2.length = d.length := by rw [r2.len, l1]
        obtain ⟨d3, e3, r3⟩ := YP (lo := lo) (hi := hi) (i := i') x (d := d2) (by omega) (by omega) (by omega) (by omega)
        rw [e3]
        refine ⟨d3, i', rfl, (r1.trans (r2.mono (Nat.le_refl _) (by omega))).trans (r3.mono (by omega) (Nat.le_refl _)), by omega, a2, fun p q p1 p2 p3 => ?_⟩
        rw [r3.out p (by omega), r3.out q (by omega)]
        exact s2 p q p1 p2 p3
      · simp only [hge, decide_false, cond_false]
        obtain ⟨d3, e3, r3⟩ := YP (lo := lo) (hi := hi) (i := i') x (d := swp d i' (i' - 1)) (by omega) (by omega) (by omega) (by omega)
        have e3' : cF (List.set (List.set d i' (List.getD d (i' - 1) default)) (i' - 1) (List.getD d i' default)) (lo : Int) (hi : Int) (i' : Int) x = _ := e3
        rw [e3']
        refine ⟨d3, i', rfl, r1.trans (r3.mono (by omega) (Nat.le_refl _)), by omega, a2, ?_⟩
        have : i' = lo + 1 := by omega
        rw [this]; exact GY lo d3

theorem aCa {lo hi : Nat} : ∀ (n x i : Nat) (d : List Int), 5 - x = n → lo < i → i ≤ hi → hi ≤ d.length → d.length < 2305843009213693951 → oO lo i d → (lo = 0 ∨ ∀ k, lo ≤ k → k < hi → gN d (lo - 1) ≤ gN d k) → x ≤ 5 →
    ∃ (fl : Bool) (d' : List Int), (lp (fun s : List Int × Int × Int => bS (lo : Nat) (hi : Nat) s.1 s.2.1 s.2.2) (d, (i : Int), (x : Int))).bind (Sum.elim (fun rr => eF rr) (fun rr => some (rr.1, rr.2))) = some (fl, d') ∧ Rel lo hi d d' ∧ (fl = true → oO lo hi d') := by
  intro n
  induction n with
  | zero =>
    intro x i d h1 h2 h3 h4 h5 h6 h7 h8
    have hs : bS (lo : Nat) (hi : Nat) d (i : Nat) (x : Nat) = some (.inr (.inl d)) := by
      have : decide ((x : Int) < 5) = false := by simp; omega
      simp only [bS, this, cond_false]
    rw [cU (show (fun s : List Int × Int × Int => bS (lo : Nat) (hi : Nat) s.1 s.2.1 s.2.2) (d, (i : Int), (x : Int)) = _ from hs)]
    exact ⟨false, d, rfl, Rel.refl .., fun h => by cases h⟩
  | succ n ih =>
    intro x i d h1 h2 h3 h4 h5 h6 h7 h8
    have hl2 : bS (lo : Nat) (hi : Nat) d (i : Nat) (x : Nat) = cT d (lo : Nat) (hi : Nat) (i : Nat) (x : Nat) := by
      have : decide ((x : Int) < 5) = true := by simp; omega
      simp only [bS, this, cond_true]
    rcases aAm (lo := lo) (hi := hi) (x : Int) h2 h3 h4 h5 h6 h7 with ⟨fl, d', e, r, s⟩ | ⟨d', i', e, r, k1, k2, s⟩
    · rw [cU (show (fun s : List Int × Int × Int => bS (lo : Nat) (hi : Nat) s.1 s.2.1 s.2.2) (d, (i : Int), (x : Int)) = _ from hl2.trans e)]
      exact ⟨fl, d', rfl, r, s⟩
    · rw [wrN (x := (x : Int) + 1) (n := x + 1) (by omega) (by omega)] at e
      obtain ⟨fl, d2, e2, r2, s2⟩ := ih (x + 1) i' d' (by omega) k1 k2 (by rw [r.len]; exact h4) (by rw [r.len]; exact h5) s (FC r h7) (by omega)
      rw [gH (show (fun s : List Int × Int × Int => bS (lo : Nat) (hi : Nat) s.1 s.2.1 s.2.2) (d, (i : Int), (x : Int)) = _ from hl2.trans e)]
      exact ⟨fl, d2, e2, r.trans r2, s2⟩

theorem aAq {lo hi : Nat} {d : List Int} (h0 : lo < hi) (h1 : hi ≤ d.length) (h2 : d.length < 2305843009213693951) (hb : lo = 0 ∨ ∀ k, lo ≤ k → k < hi → gN d (lo - 1) ≤ gN d k) :
    ∃ (fl : Bool) (d' : List Int), eH d (lo : Int) (hi : Int) = some (fl, d') ∧ Rel lo hi d d' ∧ (fl = true → oO lo hi d') := by
  unfold eH fW
  rw [wrN (x := (lo : Int) + 1) (n := lo + 1) (by omega) (by omega)]
  exact aCa (lo := lo) (hi := hi) (5 - 0) 0 (lo + 1) d rfl (by omega) (by omega) h1 h2 (GY lo d) hb (by omega)

end Go.Abs
namespace Go.Abs
open Go
abbrev PS := List Int × Int × Int × Int × Bool × Bool

abbrev PR := List Int → Int → Int → Int → Option (List Int)

def xJ (a b : Nat) (d d' : List Int) : Prop := Rel a b d d' ∧ oO a b d'

structure wF (a b lim : Nat) (d : List Int) : Prop where
  ab : a ≤ b
  bl : b ≤ d.length
  len : d.length < 2305843009213693951
  bnd : a = 0 ∨ ∀ k, a ≤ k → k < b → gN d (a - 1) ≤ gN d k
  lim : lim ≤ 100

def FD (rec : PR) (N : Nat) : Prop := ∀ (d : List Int) (a b lim : Nat), wF a b lim d → (rec d (a : Int) (b : Int) (lim : Int) = none ∧ N ≤ b - a) ∨ ∃ d', rec d (a : Int) (b : Int) (lim : Int) = some d' ∧ xJ a b d d'

def CC (N a b : Nat) (d : List Int) (F : Option (PS ⊕ List Int)) : Prop :=
  (F = none ∧ N + 1 ≤ b - a) ∨ (∃ d', F = some (.inr d') ∧ xJ a b d d') ∨
  ∃ (d' : List Int) (a' b' lim' : Nat) (wb wp : Bool), F = some (.inl (d', (a' : Int), (b' : Int), (lim' : Int), wb, wp)) ∧ b' - a' < b - a ∧ wF a' b' lim' d' ∧ ∀ d'', xJ a' b' d' d'' → xJ a b d d''

theorem xJ.pre {a b : Nat} {d d1 d' : List Int} (r : Rel a b d d1) (h : xJ a b d1 d') : xJ a b d d' := ⟨r.trans h.1, h.2⟩

theorem CC.pre {N a b : Nat} {d d1 : List Int} {F : Option (PS ⊕ List Int)} (r : Rel a b d d1) (h : CC N a b d1 F) : CC N a b d F := by
  rcases h with h | ⟨d', h1, h2⟩ | ⟨d', a', b', lim', wb, wp, h1, h2, h3, h4⟩
  · exact .inl h
  · exact .inr (.inl ⟨d', h1, h2.pre r⟩)
  · exact .inr (.inr ⟨d', a', b', lim', wb, wp, h1, h2, h3, fun d'' hg => (h4 d'' hg).pre r⟩)

theorem wF.rel {a b lim : Nat} {d d1 : List Int} (h : wF a b lim d) (r : Rel a b d d1) : wF a b lim d1 :=
  ⟨h.ab, by rw [r.len]; exact h.bl, by rw [r.len]; exact h.len, FC r h.bnd, h.lim⟩

theorem PG {a m b : Nat} {d : List Int} (hm : m < b) (h1 : ∀ k, a ≤ k → k < m → gN d k ≤ gN d m) (h2 : ∀ k, m < k → k < b → gN d m ≤ gN d k) (s1 : oO a m d) (s2 : oO (m + 1) b d) : oO a b d := by
  intro p q p1 p2 p3
  by_cases hq : q < m
  · exact s1 p q p1 p2 hq
  · by_cases hp : m < p
    · exact s2 p q hp p2 p3
    · have g1 : gN d p ≤ gN d m := by
        by_cases e : p = m
        · rw [e]; exact Int.le_refl _
        · exact h1 p p1 (by omega)
      have g2 : gN d m ≤ gN d q := by
        by_cases e : q = m
        · rw [e]; exact Int.le_refl _
        · exact h2 q (by omega) p3
      omega

theorem WT {rec : PR} {N a b lim p : Nat} {d : List Int} (hrec : FD rec N) (hv : wF a b lim d) (h12 : 12 < b - a) (hp : a ≤ p ∧ p < b) (wb wp : Bool) (len : Int) :
    CC N a b d (gQ rec d (a : Int) (b : Int) (lim : Int) wb wp len (p : Int)) := by
  have hb := hv.bl; have hl := hv.len
  -- with all equal ones on the left
  have eqc : 0 < a → ¬ gN d (a - 1) < gN d p → CC N a b d ((eR d (a : Int) (b : Int) (p : Int)).bind fun x20 => some (.inl (x20.2, x20.1, (b : Int), (lim : Int), wb, wp))) := by
    intro ha hn
    obtain ⟨m, d', e, m1, m2, r, q1, q2⟩ := NF (lo := a) (hi := b) (p := p) (d := d) (by omega) hb hl hp
    have hall : ∀ k, a ≤ k → k < b → gN d p ≤ gN d' k := by
      refine r.all (p := fun v => gN d p ≤ v) fun k k1 k2 => ?_
      rcases hv.bnd with h | h
      · omega
      · have := h k k1 k2; omega
    rw [e]
    refine .inr (.inr ⟨d', m, b, lim, wb, wp, rfl, by omega, ⟨m2, by rw [r.len]; exact hb, by rw [r.len]; exact hl, .inr fun k k1 k2 => ?_, hv.lim⟩, fun d'' hg => ⟨r.trans (hg.1.mono (by omega) (Nat.le_refl _)), fun x y x1 x2 x3 => ?_⟩⟩)
    · have := q1 (m - 1) (by omega) (by omega); have := q2 k k1 k2; omega
    · by_cases hx : m ≤ x
      · exact hg.2 x y hx x2 x3
      · rw [hg.1.out x (by omega)]
        have g1 := q1 x x1 (by omega)
        by_cases hy : y < m
        · rw [hg.1.out y (by omega)]
          have g2 := hall y (by omega) (by omega); omega
        · have g2 := hg.1.all (p := fun v => gN d p < v) q2 y (by omega) x3
          omega
  -- a partition, and the lesser part first
  have ptc : CC N a b d ((gF d (a : Int) (b : Int) (p : Int)).bind fun x23 =>
      bD ((8 : Int) ≠ 0) <|
      cond (decide ((IntKind.i64.wrap (x23.1.1 - (a : Int))) < (IntKind.i64.wrap ((b : Int) - x23.1.1))))
      ((rec x23.2 (a : Int) x23.1.1 (lim : Int)).bind fun x28 =>
      some (.inl (x28, IntKind.i64.wrap (x23.1.1 + (1 : Int)), (b : Int), (lim : Int), decide ((IntKind.i64.wrap (Int.tdiv len (8 : Int))) ≤ (IntKind.i64.wrap (x23.1.1 - (a : Int)))), x23.1.2)))
      ((rec x23.2 (IntKind.i64.wrap (x23.1.1 + (1 : Int))) (b : Int) (lim : Int)).bind fun x31 =>
      some (.inl (x31, (a : Int), x23.1.1, (lim : Int), decide ((IntKind.i64.wrap (Int.tdiv len (8 : Int))) ≤ (IntKind.i64.wrap ((b : Int) - x23.1.1))), x23.1.2)))) := by
    obtain ⟨m, fl, d1, e, m1, m2, r, q1, q2⟩ := OZ (lo := a) (hi := b) (p := p) (d := d) (by omega) hb hl hp
    have hv1 := hv.rel r
    rw [e]
    simp only [Option.bind_some]
    rw [aP (by decide), wrN (x := (m : Int) + 1) (n := m + 1) (by omega) (by omega)]
    have vL : wF a m lim d1 := ⟨m1, by have := hv1.bl; omega, hv1.len, hv1.bnd.imp id fun h k k1 k2 => h k k1 (by omega), hv.lim⟩
    have vR : wF (m + 1) b lim d1 := ⟨by omega, hv1.bl, hv1.len, .inr fun k k1 k2 => by simpa using q2 k (by omega) k2, hv.lim⟩
    cases decide ((IntKind.i64.wrap ((m : Int) - (a : Int))) < (IntKind.i64.wrap ((b : Int) - (m : Int)))) with
    | true =>
      rw [cond_true]
      rcases hrec d1 a m lim vL with ⟨hn, hN⟩ | ⟨d2, e2, g2⟩
      · rw [hn]; exact .inl ⟨rfl, by omega⟩
      · rw [e2]
        simp only [Option.bind_some]
        have top : gN d2 m = gN d1 m := g2.1.out m (by omega)
        refine .inr (.inr ⟨d2, m + 1, b, lim, _, _, rfl, by omega, ⟨by omega, by rw [g2.1.len]; exact hv1.bl, by rw [g2.1.len]; exact hv1.len, .inr fun k k1 k2 => ?_, hv.lim⟩, fun d3 hg => ⟨(r.trans (g2.1.mono (Nat.le_refl _) (by omega))).trans (hg.1.mono (by omega) (Nat.le_refl _)), ?_⟩⟩)
        · rw [show m + 1 - 1 = m by omega, top, g2.1.out k (by omega)]; exact q2 k (by omega) k2
        · have o3 : ∀ k, k ≤ m → gN d3 k = gN d2 k := fun k hk => hg.1.out k (by omega)
          refine PG m2 (fun k k1 k2 => ?_) (fun k k1 k2 => ?_) (fun x y x1 x2 x3 => by rw [o3 x (by omega), o3 y (by omega)]; exact g2.2 x y x1 x2 x3) hg.2
          · rw [o3 k (by omega), o3 m (by omega), top]
            exact g2.1.all (p := fun v => v ≤ gN d1 m) q1 k k1 k2
          · rw [o3 m (by omega), top]
            exact hg.1.all (p := fun v => gN d1 m ≤ v) (fun k k1 k2 => by rw [g2.1.out k (by omega)]; exact q2 k (by omega) k2) k (by omega) k2
    | false =>
      rw [cond_false]
      rcases hrec d1 (m + 1) b lim vR with ⟨hn, hN⟩ | ⟨d2, e2, g2⟩
      · rw [hn]; exact .inl ⟨rfl, by omega⟩
      · rw [e2]
        simp only [Option.bind_some]
        have low : ∀ k, k ≤ m → gN d2 k = gN d1 k := fun k hk => g2.1.out k (by omega)
        refine .inr (.inr ⟨d2, a, m, lim, _, _, rfl, by omega, ⟨m1, by rw [g2.1.len]; have := hv1.bl; omega, by rw [g2.1.len]; exact hv1.len, ?_, hv.lim⟩, fun d3 hg => ⟨(r.trans (g2.1.mono (by omega) (Nat.le_refl _))).trans (hg.1.mono (Nat.le_refl _) (by omega)), ?_⟩⟩)
        · rcases hv1.bnd with h | h
          · exact .inl h
          · exact .inr fun k k1 k2 => by rw [low (a - 1) (by omega), low k (by omega)]; exact h k k1 (by omega)
        · have o3 : ∀ k, m ≤ k → gN d3 k = gN d2 k := fun k hk => hg.1.out k (by omega)
          refine PG m2 (fun k k1 k2 => ?_) (fun k k1 k2 => ?_) hg.2 (fun x y x1 x2 x3 => by rw [o3 x (by omega), o3 y (by omega)]; exact g2.2 x y x1 x2 x3)
          · rw [o3 m (Nat.le_refl _), low m (Nat.le_refl _)]
            exact hg.1.all (p := fun v => v ≤ gN d1 m) (fun k k1 k2 => by rw [low k (by omega)]; exact q1 k k1 k2) k k1 k2
          · rw [o3 m (Nat.le_refl _), low m (Nat.le_refl _), o3 k (by omega)]
            exact g2.1.all (p := fun v => gN d1 m ≤ v) (fun k k1 k2 => q2 k (by omega) k2) k (by omega) k2
  unfold gQ
  by_cases ha : 0 < a
  · have hd : decide ((0 : Int) < (a : Int)) = true := by simp; omega
    rw [hd, wrN (x := (a : Int) - 1) (n := a - 1) (by omega) (by omega), aP fun _ => asN (by omega), aP fun _ => asN (by omega)]
    simp only [cW, cond_true, qH, Option.bind_some, Bool.true_and, Int.toNat_natCast]
    by_cases hlt : gN d (a - 1) < gN d p
    · simp only [gN] at hlt
      simp only [hlt, decide_true, Bool.not_true, cond_false]
      exact ptc
    · have := eqc ha hlt
      simp only [gN] at hlt
      simp only [hlt, decide_false, Bool.not_false, cond_true]
      exact this
  · have hd : decide ((0 : Int) < (a : Int)) = false := by simp; omega
    rw [hd, aP (fun h => by cases h), aP (fun h => by cases h)]
    simp only [cW, cond_false, Option.bind_some, Bool.false_and]
    exact ptc

theorem VZ {rec : PR} {N a b lim p : Nat} {d : List Int} (hrec : FD rec N) (hv : wF a b lim d) (h12 : 12 < b - a) (hp : a ≤ p ∧ p < b) (wb wp : Bool) (len hint : Int) :
    CC N a b d (gS rec d (a : Int) (b : Int) (lim : Int) wb wp len (p : Int) hint) := by
  unfold gS
  cases ((wb && wp) && (decide (hint = (1 : Int)))) with
  | false => exact WT hrec hv h12 hp wb wp len
  | true =>
    rw [cond_true]
    obtain ⟨fl, d', e, r, s⟩ := aAq (lo := a) (hi := b) (d := d) (by omega) hv.bl hv.len hv.bnd
    rw [e]
    simp only [Option.bind_some]
    cases fl with
    | true => exact .inr (.inl ⟨d', rfl, r, s rfl⟩)
    | false => exact (WT hrec (hv.rel r) h12 hp wb wp len).pre r

theorem YT {rec : PR} {N a b lim : Nat} {d : List Int} (hrec : FD rec N) (hv : wF a b lim d) (h12 : 12 < b - a) (wb wp : Bool) (len : Int) :
    CC N a b d (gU rec d (a : Int) (b : Int) (lim : Int) wb wp len) := by
  have hb := hv.bl; have hl := hv.len
  unfold gU
  obtain ⟨p, h, e, p1, p2⟩ := UP (lo := a) (hi := b) (d := d) h12 hb hl
  rw [e]
  simp only [Option.bind_some]
  by_cases h2 : h = 2
  · simp only [h2, decide_true, cond_true]
    obtain ⟨d', e2, r⟩ := XI (lo := a) (hi := b) (d := d) (by omega) hb (by omega)
    rw [e2]
    simp only [Option.bind_some]
    rw [wrN (x := (b : Int) - 1) (n := b - 1) (by omega) (by omega), wrN (x := (p : Int) - (a : Int)) (n := p - a) (by omega) (by omega), wrN (x := ((b - 1 : Nat) : Int) - ((p - a : Nat) : Int)) (n := b - 1 - (p - a)) (by omega) (by omega)]
    exact (VZ hrec (hv.rel r) h12 ⟨by omega, by omega⟩ wb wp len 1).pre r
  · simp only [h2, decide_false, cond_false]
    exact VZ hrec hv h12 ⟨p1, p2⟩ wb wp len h

theorem aBW {rec : PR} {N a b lim : Nat} {d : List Int} (hrec : FD rec N) (hv : wF a b lim d) (wb wp : Bool) :
    CC N a b d (dZ rec d (a : Int) (b : Int) (lim : Int) wb wp) := by
  have hb := hv.bl; have hl := hv.len; have hab := hv.ab
  unfold dZ
  rw [wrN (x := (b : Int) - (a : Int)) (n := b - a) (by omega) (by omega)]
  by_cases h12 : ((b - a : Nat) : Int) ≤ 12
  · simp only [h12, decide_true, cond_true]
    obtain ⟨d', e, r, s⟩ := aAr (lo := a) (hi := b) (d := d) hb (by omega) hab
    rw [e]
    exact .inr (.inl ⟨d', rfl, r, s⟩)
  · simp only [h12, decide_false, cond_false]
    by_cases h0 : lim = 0
    · have : decide ((lim : Int) = 0) = true := by simp; exact h0
      rw [this, cond_true]
      obtain ⟨d', e, r, s⟩ := XJ (lo := a) (hi := b) (d := d) (by omega) hb hl
      rw [e]
      exact .inr (.inl ⟨d', rfl, r, s⟩)
    · have : decide ((lim : Int) = 0) = false := by simp; exact h0
      rw [this, cond_false]
      cases wb with
      | true => exact YT hrec hv (by omega) true wp _
      | false =>
        simp only [Bool.not_false, cond_true]
        obtain ⟨d', e, r⟩ := YM (lo := a) (hi := b) (d := d) (by omega) hb hl
        rw [e]
        simp only [Option.bind_some]
        have hlim := hv.lim
        rw [wrN (x := (lim : Int) - 1) (n := lim - 1) (by omega) (by omega)]
        have hv' := hv.rel r
        exact (YT hrec ⟨hv'.ab, hv'.bl, hv'.len, hv'.bnd, by omega⟩ (by omega) false wp _).pre r

theorem aBF {S R : Type} {body : S → Option (S ⊕ R)} {s : S} (h : body s = none) : lp body s = none := by
  cases e : lp body s with
  | none => rfl
  | some r =>
    obtain ⟨k, hk⟩ := FF.1 e
    cases k with
    | zero => simp [iter] at hk
    | succ k => simp [iter, h] at hk

theorem aB5 {rec : PR} {N : Nat} (hrec : FD rec N) : ∀ (n a b lim : Nat) (d : List Int) (wb wp : Bool), b - a = n → wF a b lim d →
    (lp (fun s : PS => dZ rec s.1 s.2.1 s.2.2.1 s.2.2.2.1 s.2.2.2.2.1 s.2.2.2.2.2) (d, (a : Int), (b : Int), (lim : Int), wb, wp) = none ∧ N + 1 ≤ b - a) ∨
    ∃ d', lp (fun s : PS => dZ rec s.1 s.2.1 s.2.2.1 s.2.2.2.1 s.2.2.2.2.1 s.2.2.2.2.2) (d, (a : Int), (b : Int), (lim : Int), wb, wp) = some d' ∧ xJ a b d d' := by
  intro n
  induction n using Nat.strongRecOn with
  | ind n ih =>
    intro a b lim d wb wp hn hv
    rcases aBW hrec hv wb wp with ⟨h1, h2⟩ | ⟨d', h1, h2⟩ | ⟨d', a', b', lim', wb', wp', h1, h2, h3, h4⟩
    · exact .inl ⟨aBF h1, h2⟩
    · exact .inr ⟨d', cU h1, h2⟩
    · rw [gH (show (fun s : PS => dZ rec s.1 s.2.1 s.2.2.1 s.2.2.2.1 s.2.2.2.2.1 s.2.2.2.2.2) (d, (a : Int), (b : Int), (lim : Int), wb, wp) = _ from h1)]
      rcases ih (b' - a') (by omega) a' b' lim' d' wb' wp' rfl h3 with ⟨g1, g2⟩ | ⟨d2, g1, g2⟩
      · exact .inl ⟨g1, by omega⟩
      · exact .inr ⟨d2, g1, h4 d2 g2⟩

theorem PV : ∀ k : Nat, FD (cX k) k
  | 0 => fun _ _ _ _ _ => .inl ⟨rfl, Nat.zero_le _⟩
  | k + 1 => fun d a b lim hv => by
    show (fK (cX k) d a b lim = none ∧ _) ∨ ∃ d', fK (cX k) d a b lim = some d' ∧ _
    unfold fK kN
    rcases aB5 (PV k) (b - a) a b lim d true true rfl hv with ⟨h1, h2⟩ | ⟨d', h1, h2⟩
    · rw [h1]; exact .inl ⟨rfl, h2⟩
    · rw [h1]; exact .inr ⟨d', rfl, h2⟩

theorem aCv {a b lim : Nat} {d : List Int} (hv : wF a b lim d) : ∃ d', jI d (a : Int) (b : Int) (lim : Int) = some d' ∧ xJ a b d d' := by
  unfold jI
  obtain ⟨d', e, g⟩ : ∃ d', cX (b - a + 1) d (a : Int) (b : Int) (lim : Int) = some d' ∧ xJ a b d d' := by
    rcases PV (b - a + 1) d a b lim hv with ⟨_, h⟩ | h
    · omega
    · exact h
  cases hf : PD (fun k => cX k d (a : Int) (b : Int) (lim : Int)) with
  | none =>
    exfalso
    unfold PD at hf
    have hex : ∃ k r, cX k d (a : Int) (b : Int) (lim : Int) = some r := ⟨_, d', e⟩
    rw [dif_pos hex] at hf
    obtain ⟨r, hr⟩ := Classical.choose_spec hex
    have hf' : cX (Classical.choose hex) d (a : Int) (b : Int) (lim : Int) = none := hf
    rw [hr] at hf'
    cases hf'
  | some r =>
    obtain ⟨k, hk⟩ := LS hf
    rcases PV k d a b lim hv with ⟨h, _⟩ | ⟨d2, h, g2⟩
    · rw [h] at hk; cases hk
    · rw [h] at hk; cases hk; exact ⟨_, rfl, g2⟩

theorem aBq {d : List Int} (hl : d.length < 2305843009213693951) : ∃ d', kD d = some d' ∧ d'.Perm d ∧ d'.Pairwise (· ≤ ·) := by
  unfold kD
  have hL : ∃ L : Nat, kA (IntKind.u64.wrap ((List.length d : Nat) : Int)) = some (L : Int) ∧ L ≤ 100 := by
    rw [DQ (by omega) (by omega)]
    by_cases h0 : d.length = 0
    · rw [h0]; exact ⟨0, ZW, by omega⟩
    · obtain ⟨k, e, h1, _⟩ := YU (x := ((List.length d : Nat) : Int)) (by omega) (by omega)
      exact ⟨k + 1, by rw [e]; rfl, by omega⟩
  obtain ⟨L, eL, hL⟩ := hL
  rw [eL]
  simp only [Option.bind_some]
  obtain ⟨d', e, g⟩ := aCv (a := 0) (b := d.length) (lim := L) (d := d) ⟨Nat.zero_le _, Nat.le_refl _, hl, .inl rfl, hL⟩
  have e' : jI d 0 ((List.length d : Nat) : Int) (L : Int) = some d' := e
  rw [e']
  refine ⟨d', rfl, g.1.perm, List.pairwise_iff_getElem.2 fun i j hi hj hij => ?_⟩
  have := g.2 i j (Nat.zero_le _) (by omega) (by rw [g.1.len] at hj; exact hj)
  simp only [gN, List.getD_eq_getElem?_getD, List.getElem?_eq_getElem hi, List.getElem?_eq_getElem hj] at this
  exact this

theorem aBo {d s : List Int} (hl : d.length < 2305843009213693951) (hp : s.Perm d) (hs : s.Pairwise (· ≤ ·)) : kD d = some s := by
  obtain ⟨d', e, p, q⟩ := aBq hl
  rw [e]
  congr 1
  exact (p.trans hp.symm).eq_of_pairwise (le := (· ≤ ·)) (fun a b _ _ h1 h2 => Int.le_antisymm h1 h2) q hs

end Go.Abs
namespace Go.Abs
open Go
theorem JF {t : Int} : ∀ {ps : List Int}, t ∉ ps → (nE t ps).Perm (t :: ps)
  | [], _ => List.Perm.refl _
  | p :: r, h => by
    simp only [List.mem_cons, not_or] at h
    unfold nE
    rw [if_neg (fun e => h.1 e.symm)]
    split
    · exact List.Perm.refl _
    · exact (List.Perm.cons p (JF h.2)).trans (List.Perm.swap ..)

theorem HD : ∀ {ps : List Int} {last : Int}, Inc last ps → ps.Pairwise (· < ·)
  | [], _, _ => List.Pairwise.nil
  | p :: r, last, h => List.Pairwise.cons (fun x hx => (h.2.above x hx).1) (HD h.2)

theorem aBh {ps : List Int} {last : Int} (h : Inc last ps) : ps.Pairwise (· ≤ ·) := (HD h).imp fun h => by omega

end Go.Abs
namespace Go.Abs
open Go
theorem UL {l : List aM} (hl : okL l) (hm : lF l = true) : (∀ g ∈ groups l, eW g.2 = true ∧ g.1.length ≤ 4398046510976) ∧ (groups l).length ≤ 4096 := by
  obtain ⟨h1, h2, _⟩ := oA hm
  exact ⟨fun g hg => ⟨(h2 g hg).2, zZ hl hg⟩, by have := IP l; omega⟩

end Go.Abs
namespace Go.Abs
open Go
def iQ (hop n : Int) : Int := if n < 0 then 0 else (n / hop + 1) * hop

def vN (size hop : Int) : Bool := (((decide ((1 : Int) ≤ size)) && (decide (size ≤ (1099511627776 : Int)))) && (decide ((1 : Int) ≤ hop))) && (decide (hop ≤ (1099511627776 : Int)))

def mS (t : Int) : Bool := (decide ((0 : Int) ≤ t)) && (decide (t ≤ (1125899906842624 : Int)))

def UG (size hop t : Int) : Int × Int :=
  if !vN size hop then (0, 2) else if !mS t then (0, 13) else if t = 1125899906842624 then (1125899906842624, 0) else (min (iQ hop (t - size)) 1125899906842624, 0)

theorem MR {size hop : Int} (h : vN size hop = true) : 1 ≤ size ∧ size ≤ 1099511627776 ∧ 1 ≤ hop ∧ hop ≤ 1099511627776 := by
  simp only [vN, Bool.and_eq_true, decide_eq_true_eq] at h; omega

theorem yD {t : Int} (h : mS t = true) : 0 ≤ t ∧ t ≤ 1125899906842624 := by
  simp only [mS, Bool.and_eq_true, decide_eq_true_eq] at h; omega

theorem aAe {n hop : Int} (h : 0 ≤ n) : Int.tdiv n hop = n / hop := Int.tdiv_eq_ediv_of_nonneg h

theorem DR {n hop : Int} (hh : 1 ≤ hop) : n / hop * hop ≤ n ∧ n < (n / hop + 1) * hop := by
  have h1 := Int.mul_ediv_add_emod n hop
  have h2 := Int.emod_nonneg n (show hop ≠ 0 by omega)
  have h3 := Int.emod_lt_of_pos n (show 0 < hop by omega)
  rw [Int.add_mul, Int.mul_comm (n / hop) hop]
  omega

theorem vU {hop n : Int} (hh : 1 ≤ hop) : 0 ≤ iQ hop n ∧ n < iQ hop n ∧ (0 ≤ n → iQ hop n ≤ n + hop) ∧ (n < 0 → iQ hop n = 0) ∧ ∃ k : Int, iQ hop n = k * hop := by
  unfold iQ
  split
  · exact ⟨Int.le_refl _, by omega, by omega, fun _ => rfl, 0, by simp⟩
  · rename_i h
    have := DR (n := n) hh
    rw [Int.add_mul] at this ⊢
    refine ⟨by omega, by omega, by omega, by omega, n / hop + 1, by rw [Int.add_mul]⟩

theorem EV {hop n : Int} (h1 : 1 ≤ hop) (h2 : hop ≤ 1099511627776) (h3 : n ≤ 4503599627370496) : oF hop n = some (iQ hop n) := by
  unfold oF
  by_cases hn : n < 0
  · simp [hn, iQ]
  · have hn0 : 0 ≤ n := by omega
    have hm : Int.tmod n hop = n % hop := Int.tmod_eq_emod_of_nonneg hn0
    have hr : ¬ n % hop < 0 := by have := Int.emod_nonneg n (show hop ≠ 0 by omega); omega
    have hd0 : 0 ≤ n / hop := Int.ediv_nonneg hn0 (by omega)
    have hd1 : n / hop ≤ n := Int.ediv_le_self _ hn0
    have hf := DR (n := n) h1
    have e1 : wR (Int.tdiv n hop) = n / hop := by rw [aAe hn0]; exact eA (by omega) (by omega)
    have e2 : IntKind.i64.wrap (n / hop + 1) = n / hop + 1 := eA (by omega) (by omega)
    have e3 : IntKind.i64.wrap ((n / hop + 1) * hop) = (n / hop + 1) * hop := eA (by omega) (by rw [Int.add_mul]; omega)
    have e0 : uB n hop = some (n / hop, n % hop, 0) := by
      unfold uB
      have hb : decide (hop < 1) = false := by simp; omega
      rw [hb, cond_false, aP (by omega), aP (by omega), hm, decide_eq_false hr, cond_false]
      unfold sZ
      rw [show IntKind.i64.wrap (Int.tdiv n hop) = n / hop from e1]
    have hb : decide (n < (0 : Int)) = false := decide_eq_false hn
    rw [hb, cond_false, e0]
    simp only [Option.bind_some, e2, e3, iQ, if_neg hn]

theorem aBc {size hop t : Int} : vW size hop t = some (UG size hop t) := by
  unfold vW UG
  simp only [qE, mT, Option.bind_some]
  rw [show ((((decide ((1 : Int) ≤ size)) && (decide (size ≤ (1099511627776 : Int)))) && (decide ((1 : Int) ≤ hop))) && (decide (hop ≤ (1099511627776 : Int)))) = vN size hop from rfl, show ((decide ((0 : Int) ≤ t)) && (decide (t ≤ (1125899906842624 : Int)))) = mS t from rfl]
  cases hm : vN size hop with
  | false => rfl
  | true =>
    cases ht : mS t with
    | false => rfl
    | true =>
      have hm' := MR hm; have ht' := yD ht
      by_cases hf : t = 1125899906842624
      · simp [hf]
      · have e1 : IntKind.i64.wrap (t - size) = t - size := eA (by omega) (by omega)
        simp only [Bool.not_true, cond_false, decide_eq_false hf, Bool.false_eq_true, if_false, if_neg hf, e1]
        rw [EV hm'.2.2.1 hm'.2.2.2 (by omega)]
        simp only [Option.bind_some]
        have : (if (1125899906842624 : Int) < iQ hop (t - size) then (1125899906842624 : Int) else iQ hop (t - size)) = min (iQ hop (t - size)) 1125899906842624 := by
          rw [Int.min_def]; split <;> split <;> omega
        rw [this]

def aAW (hop : Int) : Nat → Int → List Int
  | 0, _ => []
  | n + 1, t => t :: aAW hop n (t + hop)

def yX (hop t b : Int) : List Int := aAW hop ((b - t + hop - 1) / hop).toNat t

theorem HM {hop t b : Int} (hh : 1 ≤ hop) (h : b ≤ t) : yX hop t b = [] := by
  unfold yX
  have : (b - t + hop - 1) / hop ≤ 0 := by
    have h1 : b - t + hop - 1 < 1 * hop := by omega
    have := Int.ediv_lt_of_lt_mul (by omega) h1
    omega
  rw [show ((b - t + hop - 1) / hop).toNat = 0 by omega]; rfl

theorem DL {hop t b : Int} (hh : 1 ≤ hop) (h : t < b) : yX hop t b = t :: yX hop (t + hop) b := by
  unfold yX
  have h1 : (b - t + hop - 1) / hop = (b - (t + hop) + hop - 1) / hop + 1 := by
    rw [show b - t + hop - 1 = (b - (t + hop) + hop - 1) + hop by omega, Int.add_ediv_of_dvd_right (Int.dvd_refl hop), Int.ediv_self (by omega)]
  have h2 : 0 ≤ (b - (t + hop) + hop - 1) / hop := Int.ediv_nonneg (by omega) (by omega)
  rw [h1, show ((b - (t + hop) + hop - 1) / hop + 1).toNat = ((b - (t + hop) + hop - 1) / hop).toNat + 1 by omega]
  rfl

theorem HI {hop b : Int} (hh : 1 ≤ hop) {C : Int → Prop} (h0 : ∀ t, b ≤ t → C t) (h1 : ∀ t, t < b → C (t + hop) → C t) (t : Int) : C t := by
  generalize hn : (b - t).toNat = n
  induction n using Nat.strongRecOn generalizing t with
  | ind n ih =>
    by_cases h : t < b
    · exact h1 t h (ih (b - (t + hop)).toNat (by omega) _ rfl)
    · exact h0 t (by omega)

theorem OM {hop b x : Int} (hh : 1 ≤ hop) : ∀ t, x ∈ yX hop t b ↔ ∃ k : Nat, x = t + k * hop ∧ x < b := by
  refine HI hh (b := b) (fun t h => ?_) (fun t h ih => ?_)
  · rw [HM hh h]
    simp only [List.not_mem_nil, false_iff, not_exists, not_and]
    intro k hk
    have : 0 ≤ (k : Int) * hop := Int.mul_nonneg (by omega) (by omega)
    omega
  · rw [DL hh h, List.mem_cons, ih]
    constructor
    · rintro (rfl | ⟨k, rfl, hk⟩)
      · exact ⟨0, by simp, h⟩
      · refine ⟨k + 1, ?_, hk⟩
        rw [Int.natCast_add, Int.add_mul]; omega
    · rintro ⟨k, hk1, hk2⟩
      match k with
      | 0 => left; simpa using hk1
      | k + 1 =>
        right
        refine ⟨k, ?_, hk2⟩
        rw [Int.natCast_add, Int.add_mul] at hk1; omega

theorem WD {hop b : Int} (hh : 1 ≤ hop) : ∀ t, (yX hop t b).Pairwise (· < ·) ∧ ∀ x ∈ yX hop t b, t ≤ x := by
  refine HI hh (b := b) (fun t h => ?_) (fun t h ih => ?_)
  · rw [HM hh h]; simp
  · rw [DL hh h]
    refine ⟨List.pairwise_cons.2 ⟨fun x hx => ?_, ih.1⟩, fun x hx => ?_⟩
    · have := ih.2 x hx; omega
    · rcases List.mem_cons.1 hx with rfl | hx
      · exact Int.le_refl _
      · have := ih.2 x hx; omega

def rX {σ α : Type} (y : σ → α → Option (σ × Bool)) : List α → σ → Option σ
  | [], s => some s
  | a :: r, s => (y s a).bind fun x => if x.2 then rX y r x.1 else some x.1

def rH (size hop frm : Int) (s : bJ) : Int := max (iQ hop (s.From - size)) (iQ hop (frm - 1))

def sP (front : Int) (s : bJ) : Int := min (min s.To front) 1125899906842624

def mN (size hop frm front : Int) (s : bJ) : List Int := yX hop (rH size hop frm s) (sP front s)

structure OkH (size hop frm front : Int) : Prop where
  s0 : 1 ≤ size
  s1 : size ≤ 1099511627776
  h0 : 1 ≤ hop
  h1 : hop ≤ 1099511627776
  f0 : 0 ≤ frm
  f1 : frm ≤ 1125899906842624
  r0 : 0 ≤ front
  r1 : front ≤ 1125899906842624

theorem RB {σ : Type} {y : σ → Int → Option (σ × Bool)} {hop front : Int} {sp : bJ} (hh : 1 ≤ hop) (hh1 : hop ≤ 1099511627776) : ∀ (t : Int) (s s' : σ), 0 ≤ t → rX y (yX hop t (sP front sp)) s = some s' → nN y s hop sp front t = some s' := by
  have main : ∀ (t : Int), ∀ (s s' : σ), 0 ≤ t → rX y (yX hop t (sP front sp)) s = some s' → ∃ x, lp (fun s => jA y hop sp front s.1 s.2) (s, t) = some x ∧ Sum.elim id id x = s' := by
    have hbe : (if (1125899906842624 : Int) < (if front < sp.To then front else sp.To) then (1125899906842624 : Int) else (if front < sp.To then front else sp.To)) = sP front sp := by
      unfold sP; simp only [Int.min_def]; split <;> split <;> split <;> split <;> omega
    refine HI hh (b := sP front sp) (fun t h s s' ht hi => ?_) (fun t h ih s s' ht hi => ?_)
    · rw [HM hh h] at hi
      simp only [rX, Option.some.injEq] at hi
      refine ⟨.inl s, cU ?_, hi⟩
      show jA _ _ _ _ _ _ = _
      simp only [jA, hbe]
      rw [decide_eq_false (by omega), cond_false]
    · rw [DL hh h] at hi
      simp only [rX] at hi
      obtain ⟨x, hx, hi⟩ := aV hi
      have hb1 : sP front sp ≤ 1125899906842624 := Int.min_le_right _ _
      have hw : IntKind.i64.wrap (t + hop) = t + hop := eA (by omega) (by omega)
      have hb : (fun s : σ × Int => jA y hop sp front s.1 s.2) (s, t) = some (if x.2 then .inl (x.1, t + hop) else .inr (.inr x.1)) := by
        show jA _ _ _ _ _ _ = _
        simp only [jA, hbe]
        rw [decide_eq_true h, cond_true, hx]
        simp only [Option.bind_some, hw]
        cases x.2 <;> rfl
      cases hx2 : x.2
      · rw [hx2] at hb hi
        simp only [Bool.false_eq_true, if_false, Option.some.injEq] at hb hi
        exact ⟨_, cU hb, hi⟩
      · rw [hx2] at hb hi
        simp only [if_true] at hb hi
        obtain ⟨z, hz1, hz2⟩ := ih x.1 s' (by omega) hi
        exact ⟨z, by rw [gH hb]; exact hz1, hz2⟩
  intro t s s' ht hi
  obtain ⟨x, h1, h2⟩ := main t s s' ht hi
  unfold nN
  rw [h1]
  cases x <;> simpa using h2

theorem JY {σ : Type} {y : σ → Int → Option (σ × Bool)} {size hop frm front : Int} {sp : bJ} (ok : OkH size hop frm front) (h1 : -1 ≤ sp.From) (h2 : sp.From ≤ 1125899906842624) {s s' : σ} (h : rX y (mN size hop frm front sp) s = some s') :
    mL y hop sp size frm front s = some s' := by
  obtain ⟨a1, a2, a3, a4, a5, a6, a7, a8⟩ := ok
  unfold mL
  have w1 : IntKind.i64.wrap (sp.From - size) = sp.From - size := eA (by omega) (by omega)
  have w2 : IntKind.i64.wrap (frm - 1) = frm - 1 := eA (by omega) (by omega)
  rw [w1, w2, EV a3 a4 (by omega), EV a3 a4 (by omega)]
  simp only [Option.bind_some]
  have e : (if iQ hop (frm - 1) > iQ hop (sp.From - size) then iQ hop (frm - 1) else iQ hop (sp.From - size)) = rH size hop frm sp := by
    unfold rH; rw [Int.max_def]; split <;> split <;> omega
  rw [e]
  refine RB a3 a4 _ _ _ ?_ h
  have := (vU (n := sp.From - size) a3).1
  unfold rH; omega

end Go.Abs
namespace Go.Abs
open Go
def okC (x : List dQ) : Prop := x.length ≤ 1000000 ∧ ∀ c ∈ x, c.Row.length ≤ 17592186044416

theorem NI {x : List dQ} (h : okC x) : mX x x = some true := by
  unfold mX oL
  rw [DJ rfl, cond_false]
  have h1 := h.1
  rw [YC (l := x) (body := fun s => lA x x s) (fun i => i) (fun _ => false) (.inr false) (.inl ()) ?_ ?_]
  · simp [mI]
  · intro i a ha
    obtain ⟨d1, d2, d3, d4⟩ := idx ha (by omega)
    simp only [lA, d1, cond_true, aP d2, d3, d4, decide_true, Bool.not_true, Bool.not_false, cW, CV a.Row a.Row (h.2 a (List.mem_of_getElem? ha)), Option.bind_some, Bool.false_or, cond_false]
    rw [aP (fun _ => d2), aP (fun _ => d2)]
    rfl
  · simp only [lA, lC, cond_false]

theorem QU {x : List aS} (h1 : x.length ≤ 1000000) (h : ∀ p ∈ x, okC p.Rows) : sK x x = some true := by
  unfold sK uN
  rw [DJ rfl, cond_false]
  rw [YC (l := x) (body := fun s => oT x x s) (fun i => i) (fun _ => false) (.inr false) (.inl ()) ?_ ?_]
  · simp [rD]
  · intro i a ha
    obtain ⟨d1, d2, d3, d4⟩ := idx ha (by omega)
    simp only [oT, d1, cond_true, aP d2, d3, d4, decide_true, Bool.and_self, Bool.not_true, Bool.not_false, cW, NI (h a (List.mem_of_getElem? ha)), Option.bind_some, Bool.false_or, cond_false]
    rw [aP (fun _ => d2), aP (fun _ => d2)]
    rfl
  · simp only [oT, lC, cond_false]

def HZ : aE := ⟨1, 1, ByteArray.empty⟩

end Go.Abs
namespace Go.Abs
open Go
theorem LI : ∀ {a b : List Int}, a.Pairwise (· < ·) → b.Pairwise (· < ·) → (∀ x, x ∈ a ↔ x ∈ b) → a = b
  | [], [], _, _, _ => rfl
  | [], y :: b, _, _, h => by have := (h y).2 (by simp); simp at this
  | x :: a, [], _, _, h => by have := (h x).1 (by simp); simp at this
  | x :: a, y :: b, ha, hb, h => by
    obtain ⟨a1, a2⟩ := List.pairwise_cons.1 ha
    obtain ⟨b1, b2⟩ := List.pairwise_cons.1 hb
    have hxy : x = y := by
      rcases List.mem_cons.1 ((h x).1 (by simp)) with h1 | h1
      · exact h1
      · rcases List.mem_cons.1 ((h y).2 (by simp)) with h2 | h2
        · exact h2.symm
        · have := a1 y h2; have := b1 x h1; omega
    subst hxy
    rw [LI a2 b2 fun z => ?_]
    constructor
    · intro hz
      rcases List.mem_cons.1 ((h z).1 (by simp [hz])) with h1 | h1
      · have := a1 z hz; omega
      · exact h1
    · intro hz
      rcases List.mem_cons.1 ((h z).2 (by simp [hz])) with h1 | h1
      · have := b1 z hz; omega
      · exact h1

theorem XG {d : List Int} (hd : d.Pairwise (· ≤ ·)) {i j : Nat} (hij : i ≤ j) (hj : j < d.length) : d.getD i 0 ≤ d.getD j 0 := by
  rw [List.getD_eq_getElem?_getD, List.getD_eq_getElem?_getD, List.getElem?_eq_getElem (by omega), List.getElem?_eq_getElem hj]
  rcases Nat.lt_or_ge i j with h | h
  · exact List.pairwise_iff_getElem.1 hd i j (by omega) hj h
  · have : i = j := by omega
    subst this; exact Int.le_refl _

theorem LY {d : List Int} {p : Nat} (hp : p < d.length) : d.take (p + 1) = d.take p ++ [d.getD p 0] := by
  rw [List.take_add_one, List.getElem?_eq_getElem hp, List.getD_eq_getElem?_getD, List.getElem?_eq_getElem hp]; rfl

theorem SJ {d : List Int} (hd : d.Pairwise (· ≤ ·)) {p : Nat} (hp : p < d.length) {x : Int} (hx : x ∈ d.take (p + 1)) : x ≤ d.getD p 0 := by
  obtain ⟨i, hi⟩ := List.getElem?_of_mem hx
  rw [List.getElem?_take] at hi
  split at hi
  · rename_i hlt
    have := XG hd (i := i) (j := p) (by omega) hp
    rw [List.getD_eq_getElem?_getD (i := i), hi] at this
    exact this
  · cases hi

def Kept (d c : List Int) (p : Nat) : Prop := c.Pairwise (· < ·) ∧ ∀ x, x ∈ c ↔ x ∈ d.take p

theorem Kept.same {d c : List Int} {p : Nat} (h : Kept d c p) (h0 : 0 < p) (hp : p < d.length) (e : d.getD p 0 = d.getD (p - 1) 0) : Kept d c (p + 1) := by
  refine ⟨h.1, fun x => ?_⟩
  rw [h.2 x, LY hp, List.mem_append]
  constructor
  · exact .inl
  · rintro (h1 | h1)
    · exact h1
    · rw [List.mem_singleton.1 h1, e]
      have : p - 1 < p := by omega
      refine List.mem_of_getElem? (i := p - 1) ?_
      rw [List.getElem?_take, if_pos this, List.getD_eq_getElem?_getD, List.getElem?_eq_getElem (by omega)]; rfl

theorem Kept.more {d c : List Int} {p : Nat} (hd : d.Pairwise (· ≤ ·)) (h : Kept d c p) (h0 : 0 < p) (hp : p < d.length) (e : d.getD p 0 ≠ d.getD (p - 1) 0) : Kept d (c ++ [d.getD p 0]) (p + 1) := by
  have hle := XG hd (i := p - 1) (j := p) (by omega) hp
  refine ⟨?_, fun x => by rw [LY hp, List.mem_append, List.mem_append, h.2 x]⟩
  rw [List.pairwise_append]
  refine ⟨h.1, by simp, fun a ha b hb => ?_⟩
  rw [List.mem_singleton.1 hb]
  have ha' := (h.2 a).1 ha
  have : a ≤ d.getD (p - 1) 0 := by
    refine SJ hd (by omega) ?_
    rwa [show p - 1 + 1 = p by omega]
  omega

end Go.Abs
namespace Go.Abs
open Go
def inW (a b : Int) (j : aB) : Bool := decide (0 < j.Net) && (decide (a ≤ j.At) && decide (j.At < b))

def wG (a b : Int) (f : List aB) : Int := ((f.filter (inW a b)).map aB.Net).sum

def qK (rs : List dQ) : dQ := rs.getD (rs.length - 1) default

theorem DE (a b : Int) (j : aB) (f : List aB) : wG a b (j :: f) = (if inW a b j then j.Net else 0) + wG a b f := by
  unfold wG
  by_cases h : inW a b j <;> simp [h]

end Go.Abs
namespace Go.Abs
open Go
theorem w00 : IntKind.i64.wrap 0 = 0 := eA (by omega) (by omega)

def nL : Int → Int → List aB → List bJ
  | n, fr, [] => if 0 < n then [⟨fr, 1125899906842624⟩] else []
  | n, fr, j :: r => if n + j.Net = 0 then ⟨if n = 0 then j.At else fr, j.At⟩ :: nL 0 (if n = 0 then j.At else fr) r else nL (n + j.Net) (if n = 0 then j.At else fr) r

def zG (f : List aB) : List bJ := nL 0 0 f

def yA (n : Int) (f : List aB) : Prop := n ≤ 1048576 * (2048 - f.length) ∧ -(1048576 * (2048 - f.length)) ≤ n ∧ f.length ≤ 1024

theorem yA.next {n : Int} {j : aB} {r : List aB} (h : yA n (j :: r)) (hj : j.Net ≤ 1048576 ∧ -1048576 ≤ j.Net) : yA (n + j.Net) r := by
  obtain ⟨h1, h2, h3⟩ := h
  simp only [List.length_cons] at h1 h2 h3
  exact ⟨by omega, by omega, by omega⟩

theorem yA.small {n : Int} {f : List aB} (h : yA n f) : n ≤ 4294967296 ∧ -4294967296 ≤ n := by
  obtain ⟨h1, h2, h3⟩ := h
  omega

theorem yA.zero {n : Int} {f : List aB} (h : yA n f) : yA 0 f := by
  obtain ⟨h1, h2, h3⟩ := h
  exact ⟨by omega, by omega, h3⟩

theorem OJ {σ : Type} {y : σ → bJ → Option (σ × Bool)} {f : List aB} (hl : f.length ≤ 1024) : ∀ (r : List aB) (k : Nat) (last n fr : Int) (s s' : σ), f.drop k = r → k ≤ f.length → nH last r → yA n r → rX y (nL n fr r) s = some s' →
    ∃ x, lp (fun s : σ × Int × Int × Int => fR y f ((f.length : Nat) : Int) s.1 s.2.1 s.2.2.1 s.2.2.2) (s, n, fr, (k : Int)) = some x ∧ Sum.elim (fun rr => mM y rr.1 rr.2.1 rr.2.2) (fun rr => some rr) x = some s' := by
  intro r
  induction r with
  | nil =>
    intro k last n fr s s' hd hk _ _ h
    have hk' : k = f.length := by
      have := congrArg List.length hd
      simp at this; omega
    subst hk'
    refine ⟨.inl (s, n, fr), cU ?_, ?_⟩
    · show fR _ _ _ _ _ _ _ = _
      simp only [fR, lC, cond_false]
    · simp only [Sum.elim_inl, mM]
      by_cases hn : 0 < n
      · simp only [nL, hn, if_true, rX] at h
        obtain ⟨x, hx, h⟩ := aV h
        rw [decide_eq_true hn, cond_true, hx]
        simp only [Option.bind_some]
        cases hx2 : x.2 <;> rw [hx2] at h <;> simpa using h
      · simp only [nL, hn, if_false, rX] at h
        rw [decide_eq_false hn, cond_false]; exact h
  | cons j r ih =>
    intro k last n fr s s' hd hk hr hroom h
    obtain ⟨hget, hd'⟩ := drop_cons hd
    have hlt : k < f.length := (List.getElem?_eq_some_iff.1 hget).1
    obtain ⟨d1, d2, d3, d4⟩ := idx hget (by omega)
    have hj := hr.1
    have hnx := hroom.next ⟨hj.2.2.2.1, hj.2.2.2.2⟩
    have hsm := hnx.small
    have hw : IntKind.i64.wrap (n + j.Net) = n + j.Net := eA (by omega) (by omega)
    -- what the body does
    have body : fR y f ((f.length : Nat) : Int) s n fr (k : Int) = lM y s n (if n = 0 then j.At else fr) j f ((f.length : Nat) : Int) (k : Int) := by
      simp only [fR, d1, cond_true, aP d2, d3]
      by_cases hn : n = 0 <;> simp [hn]
    by_cases hz : n + j.Net = 0
    · simp only [nL, hz, if_true, rX] at h
      obtain ⟨x, hx, h⟩ := aV h
      have hb : (fun s : σ × Int × Int × Int => fR y f ((f.length : Nat) : Int) s.1 s.2.1 s.2.2.1 s.2.2.2) (s, n, fr, (k : Int)) = some (if x.2 then .inl (x.1, 0, (if n = 0 then j.At else fr), ((k + 1 : Nat) : Int)) else .inr (.inr x.1)) := by
        show fR _ _ _ _ _ _ _ = _
        rw [body]
        simp only [lM, hw, d4, hz, w00, decide_true, DP, cond_true, hx, Option.bind_some, Bool.true_and]
        cases x.2 <;> rfl
      cases hx2 : x.2
      · rw [hx2] at hb h
        simp only [Bool.false_eq_true, if_false, Option.some.injEq] at hb h
        exact ⟨_, cU hb, by simpa using h⟩
      · rw [hx2] at hb h
        simp only [if_true] at hb h
        obtain ⟨z, hz1, hz2⟩ := ih (k + 1) j.At 0 _ x.1 s' hd' (by omega) hr.2 hnx.zero h
        exact ⟨z, by rw [gH hb]; exact hz1, hz2⟩
    · simp only [nL, hz, if_false] at h
      have hb : (fun s : σ × Int × Int × Int => fR y f ((f.length : Nat) : Int) s.1 s.2.1 s.2.2.1 s.2.2.2) (s, n, fr, (k : Int)) = some (.inl (s, n + j.Net, (if n = 0 then j.At else fr), ((k + 1 : Nat) : Int))) := by
        show fR _ _ _ _ _ _ _ = _
        rw [body]
        simp only [lM, hw, d4, decide_eq_false hz, DP, cond_false, Option.bind_some, Bool.false_and]
      obtain ⟨z, hz1, hz2⟩ := ih (k + 1) j.At (n + j.Net) _ s s' hd' (by omega) hr.2 hnx h
      exact ⟨z, by rw [gH hb]; exact hz1, hz2⟩

theorem UF {σ : Type} {y : σ → bJ → Option (σ × Bool)} {f : List aB} (hf : eW f = true) {s s' : σ} (h : rX y (zG f) s = some s') : pF y f s = some s' := by
  obtain ⟨hl, hr⟩ := lP.1 hf
  obtain ⟨x, h1, h2⟩ := OJ (y := y) hl f 0 (-2) 0 0 s s' rfl (by omega) hr ⟨by omega, by omega, hl⟩ h
  unfold pF qV
  simp only [Int.natCast_zero] at h1
  rw [h1]
  exact h2

theorem BP {x : Int} (hx : x < 1125899906842624) : ∀ {f : List aB} {last n fr : Int}, nH last f → (∀ t, 0 ≤ n + val f t) → (n ≠ 0 → fr ≤ last) →
    ((∃ s ∈ nL n fr f, s.From ≤ x ∧ x < s.To) ↔ (n ≠ 0 → fr ≤ x) ∧ 0 < n + val f x)
  | [], last, n, fr, _, hn, _ => by
    have h0 := hn 0
    simp only [FE, Int.add_zero] at h0 ⊢
    unfold nL
    by_cases h : 0 < n
    · rw [if_pos h]
      simp only [List.mem_singleton]
      constructor
      · rintro ⟨s, rfl, h1, h2⟩; exact ⟨fun _ => h1, h⟩
      · rintro ⟨h1, _⟩; exact ⟨_, rfl, h1 (by omega), hx⟩
    · rw [if_neg h]
      simp [h]
  | j :: r, last, n, fr, hr, hn, hf => by
    have hj := hr.1
    have hab := hr.2.above
    have hv : ∀ t, t ≤ j.At → val r t = 0 := fun t ht => qB fun k hk => by have := (hab k hk).1; omega
    have hn0 : 0 ≤ n := by
      have := hn (j.At - 1)
      rw [gJ, if_neg (by omega), hv _ (by omega)] at this; omega
    have hn1 : 0 ≤ n + j.Net := by
      have := hn j.At
      rw [gJ, if_pos (by omega), hv _ (by omega)] at this; omega
    have hn2 : ∀ t, 0 ≤ (n + j.Net) + val r t := fun t => by
      by_cases ht : j.At ≤ t
      · have := hn t
        rw [gJ, if_pos ht] at this; omega
      · rw [hv t (by omega)]; omega
    rw [gJ]
    unfold nL
    by_cases hz : n + j.Net = 0
    · rw [if_pos hz]
      have ih := BP hx (f := r) (last := j.At) (n := 0) (fr := if n = 0 then j.At else fr) hr.2 (fun t => by have := hn2 t; omega) (by simp)
      have e : (∃ s ∈ (⟨if n = 0 then j.At else fr, j.At⟩ : bJ) :: nL 0 (if n = 0 then j.At else fr) r, s.From ≤ x ∧ x < s.To) ↔ ((if n = 0 then j.At else fr) ≤ x ∧ x < j.At) ∨ (∃ s ∈ nL 0 (if n = 0 then j.At else fr) r, s.From ≤ x ∧ x < s.To) := by
        simp only [List.mem_cons, or_and_right, exists_or, exists_eq_left]
      rw [e, ih]
      by_cases hnz : n = 0
      · omega
      · rw [if_neg hnz]
        have hfl := hf hnz
        by_cases hxj : j.At ≤ x
        · rw [if_pos hxj]
          constructor
          · rintro (h | h)
            · omega
            · exact ⟨fun _ => by omega, by have := h.2; omega⟩
          · rintro ⟨_, h⟩; right; exact ⟨by simp, by omega⟩
        · rw [if_neg hxj, hv x (by omega)]
          constructor
          · rintro (h | h)
            · exact ⟨fun _ => h.1, by omega⟩
            · have := h.2; omega
          · rintro ⟨h, _⟩; left; exact ⟨h hnz, by omega⟩
    · rw [if_neg hz, BP hx (f := r) (last := j.At) (n := n + j.Net) (fr := if n = 0 then j.At else fr) hr.2 hn2 (fun _ => by
        split
        · exact Int.le_refl _
        · rename_i h; have := hf h; omega)]
      by_cases hnz : n = 0
      · simp only [hnz, if_true]
        by_cases hxj : j.At ≤ x
        · rw [if_pos hxj]
          constructor
          · rintro ⟨_, h⟩; exact ⟨by simp, by omega⟩
          · rintro ⟨_, h⟩; exact ⟨fun _ => hxj, by omega⟩
        · rw [if_neg hxj, hv x (by omega)]
          constructor
          · rintro ⟨h, _⟩; exact absurd (h (by omega)) hxj
          · rintro ⟨_, h⟩; omega
      · rw [if_neg hnz]
        by_cases hxj : j.At ≤ x
        · rw [if_pos hxj]
          constructor
          · rintro ⟨h, h2⟩; exact ⟨fun _ => h hz, by omega⟩
          · rintro ⟨h, h2⟩; exact ⟨fun _ => h hnz, by omega⟩
        · rw [if_neg hxj, hv x (by omega)]
          constructor
          · rintro ⟨h, h2⟩; exact ⟨fun _ => h hz, by omega⟩
          · rintro ⟨h, h2⟩; exact ⟨fun _ => h hnz, by omega⟩

theorem AT : ∀ {f : List aB} {last n fr : Int}, nH last f → -2 ≤ last → last < 1125899906842624 → (n ≠ 0 → fr ≤ last ∧ -1 ≤ fr) → ∀ s ∈ nL n fr f, -1 ≤ s.From ∧ s.From < s.To ∧ s.To ≤ 1125899906842624
  | [], last, n, fr, _, h1, h2, hf, s, hs => by
    unfold nL at hs
    split at hs
    · simp only [List.mem_singleton] at hs; subst hs
      have := hf (by omega)
      exact ⟨this.2, by show fr < 1125899906842624; omega, Int.le_refl _⟩
    · simp at hs
  | j :: r, last, n, fr, hr, h1, h2, hf, s, hs => by
    have hj := hr.1
    have key : (if n = 0 then j.At else fr) ≤ j.At ∧ -1 ≤ (if n = 0 then j.At else fr) := by
      split
      · omega
      · rename_i h; have := hf h; omega
    unfold nL at hs
    split at hs
    · rcases List.mem_cons.1 hs with rfl | hs
      · rename_i hz
        have hnz : n ≠ 0 := by omega
        have := hf hnz
        refine ⟨key.2, ?_, by show j.At ≤ _; omega⟩
        show (if n = 0 then j.At else fr) < j.At
        rw [if_neg hnz]; omega
      · exact AT hr.2 (by omega) (by omega) (by simp) s hs
    · exact AT hr.2 (by omega) (by omega) (fun _ => key) s hs

theorem IS {f : List aB} (hf : eW f = true) (hv : ∀ t, 0 ≤ val f t) {x : Int} (hx : x < 1125899906842624) : (∃ s ∈ zG f, s.From ≤ x ∧ x < s.To) ↔ 0 < val f x := by
  rw [zG, BP hx (lP.1 hf).2 (fun t => by have := hv t; omega) (by simp)]
  simp

theorem GG {f : List aB} (hf : eW f = true) : ∀ s ∈ zG f, -1 ≤ s.From ∧ s.From < s.To ∧ s.To ≤ 1125899906842624 :=
  AT (lP.1 hf).2 (by omega) (by omega) (by simp)

def eK (f : List aB) (a b : Int) : Int := val f a + wG (a + 1) b f

theorem HY (a b : Int) : ∀ {f : List aB}, (∀ j ∈ f, j.Net ≤ 1048576) → 0 ≤ wG a b f ∧ wG a b f ≤ 1048576 * f.length
  | [], _ => by simp [wG]
  | j :: r, h => by
    have ih := HY a b (f := r) fun k hk => h k (List.mem_cons_of_mem _ hk)
    have hj := h j (by simp)
    rw [DE]
    simp only [List.length_cons, Int.natCast_add, Int.natCast_one, Int.mul_add, Int.mul_one]
    by_cases hi : inW a b j = true
    · rw [if_pos hi]
      simp only [inW, Bool.and_eq_true, decide_eq_true_eq] at hi
      omega
    · rw [if_neg hi]; omega

theorem JB {f : List aB} (hf : eW f = true) {w : bJ} : rC f w = some (eK f w.From w.To) := by
  obtain ⟨hl, hr⟩ := lP.1 hf
  have hb := hr.above
  have hv := DS (f := f) w.From (show (0 : Int) ≤ 1048576 by omega) fun j hj => ⟨(hb j hj).2.2.2.1, (hb j hj).2.2.2.2⟩
  unfold rC
  rw [aCD, hf]
  simp only [if_true, Option.bind_some]
  unfold tK
  have key := yQ (l := f) (body := fun s : Int × Int => nX w f ((f.length : Nat) : Int) s.1 s.2) (fun (n : Int) i => (n, i)) (fun n r => n + wG (w.From + 1) w.To r)
    (fun n r => n ≤ 1048576 * (2048 - r.length) ∧ -(1048576 * (2048 - r.length)) ≤ n ∧ r.length ≤ 1024 ∧ ∀ j ∈ r, j.Net ≤ 1048576 ∧ -1048576 ≤ j.Net) (val f w.From) ?_ ?_ ⟨by omega, by omega, hl, fun j hj => ⟨(hb j hj).2.2.2.1, (hb j hj).2.2.2.2⟩⟩
  · rw [key]
    rfl
  · intro i j r n hj hI
    left
    obtain ⟨d1, d2, d3, d4⟩ := idx hj (by omega)
    obtain ⟨i1, i2, i3, i4⟩ := hI
    simp only [List.length_cons] at i1 i2 i3
    have i5 := i4 j (by simp)
    have hmx : (if (0 : Int) > j.Net then (0 : Int) else j.Net) = if 0 < j.Net then j.Net else 0 := by split <;> split <;> omega
    refine ⟨n + (if inW (w.From + 1) w.To j then j.Net else 0), ?_, ⟨?_, ?_, by omega, fun k hk => i4 k (List.mem_cons_of_mem _ hk)⟩, by rw [DE]; omega⟩
    · have e1 : inW (w.From + 1) w.To j = (decide (0 < j.Net) && ((decide (w.From < j.At)) && (decide (j.At < w.To)))) := by
        unfold inW
        have : decide (w.From + 1 ≤ j.At) = decide (w.From < j.At) := decide_eq_decide.2 (by omega)
        rw [this]
      simp only [nX, d1, cond_true, aP d2, d3, hmx, e1]
      cases hw : (decide (w.From < j.At)) && (decide (j.At < w.To)) with
      | false =>
        simp only [cond_false, nZ, d4, Bool.and_false, Bool.false_eq_true, if_false, Int.add_zero]
      | true =>
        have : IntKind.i64.wrap (n + (if 0 < j.Net then j.Net else 0)) = n + (if 0 < j.Net then j.Net else 0) := eA (by split <;> omega) (by split <;> omega)
        simp only [cond_true, nZ, d4, this, Bool.and_true, decide_eq_true_eq]
    · split <;> omega
    · split <;> omega
  · intro n _
    simp only [nX, lC, cond_false]
    simp [wG]

theorem QO {a b x : Int} (h1 : a ≤ x) (h2 : x < b) : ∀ f : List aB, val f x ≤ val f a + wG (a + 1) b f
  | [] => by simp [wG, FE]
  | j :: r => by
    have ih := QO h1 h2 r
    rw [gJ, gJ, DE]
    by_cases hi : inW (a + 1) b j = true
    · rw [if_pos hi]
      simp only [inW, Bool.and_eq_true, decide_eq_true_eq] at hi
      split <;> split <;> omega
    · rw [if_neg hi]
      have hi : ¬ (0 < j.Net ∧ a + 1 ≤ j.At ∧ j.At < b) := by simpa [inW] using hi
      split <;> split <;> omega

theorem NW : ∀ {f : List aB} {last : Int}, nH last f → ∀ j ∈ f, val f j.At = val f (j.At - 1) + j.Net
  | [], _, _, j, hj => by simp at hj
  | k :: r, last, hr, j, hj => by
    have hab := hr.2.above
    rw [gJ, gJ]
    rcases List.mem_cons.1 hj with rfl | hj
    · rw [if_pos (by omega), if_neg (by omega), qB (f := r) fun q hq => (hab q hq).1, qB (f := r) fun q hq => by have := (hab q hq).1; omega]
      omega
    · have := (hab j hj).1
      rw [if_pos (by omega), if_pos (by omega), NW hr.2 j hj]
      omega

theorem FV {f : List aB} (hf : eW f = true) (hv : ∀ t, 0 ≤ val f t) {a b : Int} (hab : a < b) : 0 < eK f a b ↔ ∃ x, a ≤ x ∧ x < b ∧ 0 < val f x := by
  obtain ⟨hl, hr⟩ := lP.1 hf
  have hb := hr.above
  have hg := HY (a + 1) b (f := f) fun j hj => (hb j hj).2.2.2.1
  unfold eK
  constructor
  · intro h
    by_cases h0 : 0 < val f a
    · exact ⟨a, Int.le_refl _, hab, h0⟩
    · have hva := hv a
      have hne : f.filter (inW (a + 1) b) ≠ [] := by
        intro hc
        unfold wG at h
        rw [hc] at h
        simp at h; omega
      obtain ⟨j, hj⟩ := List.exists_mem_of_ne_nil _ hne
      obtain ⟨hj1, hj2⟩ := List.mem_filter.1 hj
      simp only [inW, Bool.and_eq_true, decide_eq_true_eq] at hj2
      have := NW hr j hj1
      have := hv (j.At - 1)
      exact ⟨j.At, by omega, by omega, by omega⟩
  · rintro ⟨x, h1, h2, h3⟩
    have := QO h1 h2 f
    omega

end Go.Abs
namespace Go.Abs
open Go
theorem MS {β : Type} {k : Int} {v : β} : ∀ {m : List (Int × β)}, k ∈ m.map (·.1) → (gP m k v).map (·.1) = m.map (·.1)
  | [], h => by simp at h
  | p :: m, h => by
    by_cases hp : p.1 = k
    · simp [gP, hp]
    · simp only [List.map_cons, List.mem_cons] at h
      rcases h with h | h
      · exact absurd h.symm hp
      · simp only [gP, hp, if_false, List.map_cons, MS h]

theorem MN {β : Type} {k : Int} {v : β} {m : List (Int × β)} (h : k ∉ m.map (·.1)) : (gP m k v).map (·.1) = m.map (·.1) ++ [k] := by
  rw [HB fun p hp e => h (List.mem_map.2 ⟨p, hp, e⟩)]; simp

theorem EM {β : Type} {k : Int} : ∀ {m : List (Int × β)}, fE m k = none ↔ k ∉ m.map (·.1)
  | [] => by simp [fE]
  | p :: m => by
    rw [fE]
    by_cases hp : p.1 = k
    · simp [hp]
    · rw [if_neg hp, EM (m := m)]
      simp only [List.map_cons, List.mem_cons, not_or]
      exact ⟨fun h => ⟨fun e => hp e.symm, h⟩, fun h => h.2⟩

theorem EC {β : Type} {k x : Int} {v : β} : ∀ {m : List (Int × β)}, fE (gP m k v) x = if x = k then some v else fE m x
  | [] => by
    simp only [gP, fE]
    by_cases h : k = x
    · simp [h]
    · rw [if_neg h, if_neg (fun e => h e.symm)]
  | p :: m => by
    by_cases hp : p.1 = k
    · simp only [gP, if_pos hp, fE]
      by_cases h : k = x
      · simp [h]
      · rw [if_neg h, if_neg (fun e => h e.symm), if_neg (by rw [hp]; exact h)]
    · simp only [gP, if_neg hp, fE]
      by_cases h : p.1 = x
      · rw [if_pos h, if_pos h, if_neg (fun e => hp (h.trans e))]
      · rw [if_neg h, if_neg h, EC (m := m)]

theorem DY {S α : Type} {f : S → α → Option S} : ∀ {a b : List α} {s : S}, dH f s (a ++ b) = (dH f s a).bind fun s' => dH f s' b
  | [], b, s => rfl
  | x :: a, b, s => by
    simp only [List.cons_append, dH]
    cases f s x with
    | none => rfl
    | some s' => exact DY (a := a)

def mkW (size t : Int) : aS := ⟨⟨t, min (t + size) 1125899906842624⟩, []⟩

def iX (g : List aE × List aB) (p : aS) : aS :=
  if p.Rows = [] ∨ (qK p.Rows).Row ≠ g.1 then ⟨p.Span, p.Rows ++ [⟨g.1, eK g.2 p.Span.From p.Span.To⟩]⟩ else p

def lJ (size : Int) (g : List aE × List aB) (m : List (Int × aS)) (t : Int) : Option (List (Int × aS)) :=
  match fE m t with
  | none => if m.length = 1024 then none else some (gP m t (iX g (mkW size t)))
  | some p => some (gP m t (iX g p))

theorem vZ (rs : List dQ) (c : dQ) : qK (rs ++ [c]) = c := by
  unfold qK
  have : (rs ++ [c]).length - 1 = rs.length := by simp
  rw [this, List.getD_eq_getElem?_getD, List.getElem?_append_right (Nat.le_refl _)]
  simp

theorem SN (g : List aE × List aB) (p : aS) : (iX g p).Rows ≠ [] ∧ (qK (iX g p).Rows).Row = g.1 := by
  unfold iX
  split
  · exact ⟨by simp, by rw [vZ]⟩
  · rename_i h
    simp only [not_or, Decidable.not_not] at h
    exact h

theorem PL (g : List aE × List aB) (p : aS) : iX g (iX g p) = iX g p := by
  obtain ⟨h1, h2⟩ := SN g p
  have key : ∀ q : aS, q.Rows ≠ [] → (qK q.Rows).Row = g.1 → iX g q = q := fun q a b => by
    unfold iX
    rw [if_neg (by simp [a, b])]
  exact key _ h1 h2

theorem DK {g : List aE × List aB} (hg : eW g.2 = true) (hr : g.1.length ≤ 4398046510976) {p : aS} (hp : p.Rows.length ≤ 1000000) (hlr : p.Rows ≠ [] → (qK p.Rows).Row.length ≤ 4398046510976) : nJ g.1 g.2 p = some (iX g p) := by
  unfold nJ
  have hlen : IntKind.i64.wrap (((List.length p.Rows : Nat) : Int) - 1) = ((List.length p.Rows : Nat) : Int) - 1 := eA (by omega) (by omega)
  simp only [wR, lN, gD, hlen]
  cases hR : p.Rows with
  | nil =>
    have h0 : decide ((((List.length ([] : List dQ) : Nat) : Int) - 1) < 0) = true := by decide
    simp only [h0, Bool.not_true, Bool.true_or, cond_true, cW, cond_false, Option.bind_some]
    rw [aP (by simp)]
    rw [yB hr, Option.bind_some, JB hg, Option.bind_some, aP (by simp)]
    unfold iX
    rw [if_pos (.inl hR), hR]
  | cons c rs =>
    have hl2 : (c :: rs).length ≤ 1000000 := by rw [← hR]; exact hp
    have hge : 0 ≤ (((List.length (c :: rs) : Nat) : Int) - 1) ∧ (((List.length (c :: rs) : Nat) : Int) - 1) < ((List.length (c :: rs) : Nat) : Int) := by simp only [List.length_cons]; omega
    have h0 : decide ((((List.length (c :: rs) : Nat) : Int) - 1) < 0) = false := decide_eq_false (by omega)
    have hlast : List.getD (c :: rs) (Int.toNat (((List.length (c :: rs) : Nat) : Int) - 1)) default = qK (c :: rs) := by
      unfold qK
      congr 1
      omega
    rw [h0]
    simp only [Bool.not_false, Bool.false_or, cW, cond_true]
    rw [aP (fun _ => hge), hlast]
    have hsame : qP (qK (c :: rs)).Row g.1 = some (decide ((qK (c :: rs)).Row = g.1)) := by
      have := hlr (by rw [hR]; simp)
      rw [hR] at this
      exact IX _ _ (by omega)
    rw [hsame, Option.bind_some]
    unfold iX
    rw [hR]
    by_cases hq : (qK (c :: rs)).Row = g.1
    · rw [decide_eq_true hq, if_neg (by simp [hq])]; rfl
    · rw [decide_eq_false hq, if_pos (.inr hq)]
      simp only [Bool.not_false, cond_true]
      rw [yB hr, Option.bind_some, JB hg, Option.bind_some, aP (by simp only [List.length_cons, List.length_nil] at hl2 ⊢; omega)]

def GL (n : Nat) (r : List aE) (p : aS) : Prop := (p.Rows.length ≤ n ∨ (p.Rows ≠ [] ∧ (qK p.Rows).Row = r ∧ p.Rows.length ≤ n + 1)) ∧ (p.Rows ≠ [] → (qK p.Rows).Row.length ≤ 4398046510976)

theorem GL.add {n : Nat} {g : List aE × List aB} (hr : g.1.length ≤ 4398046510976) {p : aS} (h : GL n g.1 p) : GL n g.1 (iX g p) := by
  obtain ⟨h, h'⟩ := h
  unfold iX
  split
  · rename_i hc
    refine ⟨.inr ⟨by simp, by rw [vZ], ?_⟩, fun _ => by rw [vZ]; exact hr⟩
    rcases h with h | ⟨h1, h2, h3⟩
    · simp; omega
    · rcases hc with hc | hc
      · exact absurd hc h1
      · exact absurd h2 hc
  · exact ⟨h, h'⟩

def BV (n : Nat) (r : List aE) (m : List (Int × aS)) : Prop := ∀ t p, fE m t = some p → GL n r p

theorem aAV {size : Int} {g : List aE × List aB} (hg : eW g.2 = true) (hr : g.1.length ≤ 4398046510976) {n : Nat} (hn : n ≤ 900000) {m : List (Int × aS)} (hm : BV n g.1 m) {t : Int} (h0 : 0 ≤ t) (h1 : t < 1125899906842624) (hs0 : 0 ≤ size) (hs : size ≤ 1099511627776) (b : Bool) :
    (∀ m', lJ size g m t = some m' → mG g.1 g.2 size b m t = some (.inl (b, m')) ∧ BV n g.1 m') ∧ (lJ size g m t = none → mG g.1 g.2 size b m t = some (.inr (false, m))) := by
  unfold lJ mG
  have small : ∀ p, GL n g.1 p → p.Rows.length ≤ 1000000 := fun p hp => by rcases hp.1 with h | ⟨_, _, h⟩ <;> omega
  have put : ∀ p, GL n g.1 p → BV n g.1 (gP m t (iX g p)) := by
    intro p hp t' p' h
    rw [EC] at h
    split at h
    · cases h; exact hp.add hr
    · exact hm t' p' h
  cases hgt : fE m t with
  | none =>
    simp only
    have hw : IntKind.i64.wrap (t + size) = t + size := eA (by omega) (by omega)
    have hmk : (aS.mk (bJ.mk t (if (1125899906842624 : Int) < (wR (t + size)) then (1125899906842624 : Int) else (wR (t + size)))) []) = mkW size t := by
      unfold mkW
      simp only [wR, hw]
      congr 2
      rw [Int.min_def]; split <;> split <;> omega
    have hf : GL n g.1 (mkW size t) := ⟨.inl (by simp [mkW]), fun h => absurd rfl h⟩
    rw [hmk, DK hg hr (small _ hf) hf.2]
    by_cases hl : m.length = 1024
    · have : decide ((lN m) = (1024 : Int)) = true := decide_eq_true (by simp only [lN]; omega)
      rw [this, if_pos hl]
      exact ⟨fun m' h => (by cases h), fun _ => rfl⟩
    · have : decide ((lN m) = (1024 : Int)) = false := decide_eq_false (by simp only [lN]; omega)
      rw [this, if_neg hl]
      refine ⟨fun m' h => ?_, fun h => (by cases h)⟩
      cases h
      exact ⟨rfl, put _ hf⟩
  | some p =>
    simp only
    have hf := hm t p hgt
    rw [DK hg hr (small _ hf) hf.2]
    refine ⟨fun m' h => ?_, fun h => (by cases h)⟩
    cases h
    exact ⟨rfl, put _ hf⟩

theorem OB {size : Int} {g : List aE × List aB} (hg : eW g.2 = true) (hr : g.1.length ≤ 4398046510976) {n : Nat} (hn : n ≤ 900000) (hs0 : 0 ≤ size) (hs : size ≤ 1099511627776) (b : Bool) : ∀ (ts : List Int) (m : List (Int × aS)), BV n g.1 m → (∀ t ∈ ts, 0 ≤ t ∧ t < 1125899906842624) →
    ∃ x, rX (fun st t => rnd (fun (q : Bool × List (Int × aS)) => mG g.1 g.2 size q.1 q.2 t) st) ts (.inl (b, m)) = some x ∧ (∀ m', dH (lJ size g) m ts = some m' → x = .inl (b, m') ∧ BV n g.1 m') ∧ (dH (lJ size g) m ts = none → ∃ q, q.1 = false ∧ x = .inr q)
  | [], m, hm, _ => ⟨_, rfl, fun m' h => by simp only [dH, Option.some.injEq] at h; subst h; exact ⟨rfl, hm⟩, fun h => by simp [dH] at h⟩
  | t :: ts, m, hm, ht => by
    obtain ⟨h0, h1⟩ := ht t (by simp)
    obtain ⟨a1, a2⟩ := aAV hg hr hn hm h0 h1 hs0 hs b
    simp only [rX, dH]
    cases hst : lJ size g m t with
    | none =>
      have e := a2 hst
      refine ⟨.inr (false, m), ?_, fun m' h => (by simp at h), fun _ => ⟨_, rfl, rfl⟩⟩
      simp only [rnd, e, Option.bind_some, Sum.isLeft_inr, Bool.false_eq_true, if_false]
    | some m1 =>
      obtain ⟨e, hm1⟩ := a1 m1 hst
      obtain ⟨x, e1, e2, e3⟩ := OB hg hr hn hs0 hs b ts m1 hm1 fun t' h' => ht t' (by simp [h'])
      refine ⟨x, ?_, e2, e3⟩
      simp only [rnd, e, Option.bind_some, Sum.isLeft_inl, if_true]
      exact e1

def mY (size hop frm front : Int) (f : List aB) : List Int := (zG f).flatMap (mN size hop frm front)

theorem CU {size hop frm front : Int} (ok : OkH size hop frm front) (s : bJ) : ∀ t ∈ mN size hop frm front s, 0 ≤ t ∧ t < 1125899906842624 := by
  intro t ht
  unfold mN at ht
  have h1 := (WD (b := sP front s) ok.h0 (rH size hop frm s)).2 t ht
  obtain ⟨k, _, h2⟩ := (OM ok.h0 _).1 ht
  have h3 := (vU (n := s.From - size) ok.h0).1
  have h4 : iQ hop (s.From - size) ≤ rH size hop frm s := Int.le_max_left _ _
  have h5 : sP front s ≤ 1125899906842624 := Int.min_le_right _ _
  omega

theorem OY {size hop frm front : Int} (ok : OkH size hop frm front) {g : List aE × List aB} (hg : eW g.2 = true) (hr : g.1.length ≤ 4398046510976) {n : Nat} (hn : n ≤ 900000) (b : Bool) : ∀ (ss : List bJ) (m : List (Int × aS)), BV n g.1 m → (∀ s ∈ ss, -1 ≤ s.From ∧ s.From < s.To ∧ s.To ≤ 1125899906842624) →
    ∃ x, rX (fun st s => rnd (fun (q : Bool × List (Int × aS)) => nI g.1 g.2 size hop frm front q.1 q.2 s) st) ss (.inl (b, m)) = some x ∧ (∀ m', dH (lJ size g) m (ss.flatMap (mN size hop frm front)) = some m' → x = .inl (b, m') ∧ BV n g.1 m') ∧ (dH (lJ size g) m (ss.flatMap (mN size hop frm front)) = none → ∃ q, q.1 = false ∧ x = .inr q)
  | [], m, hm, _ => ⟨_, rfl, fun m' h => by simp only [List.flatMap_nil, dH, Option.some.injEq] at h; subst h; exact ⟨rfl, hm⟩, fun h => by simp [dH] at h⟩
  | s :: ss, m, hm, hs => by
    have hsp := hs s (by simp)
    obtain ⟨x, e1, e2, e3⟩ := OB hg hr hn (size := size) (by have := ok.s0; omega) ok.s1 b (mN size hop frm front s) m hm (CU ok s)
    have hl : nI g.1 g.2 size hop frm front b m s = (Sum.elim (fun q => some (.inl q)) (fun q => some (.inr q)) x : Option ((Bool × List (Int × aS)) ⊕ (Bool × List (Int × aS)))) := by
      unfold nI
      simp only [pV, Option.bind_some]
      rw [JY ok hsp.1 (by omega) e1]
      rfl
    simp only [rX, List.flatMap_cons, DY]
    cases hst : dH (lJ size g) m (mN size hop frm front s) with
    | none =>
      obtain ⟨q, hq, rfl⟩ := e3 hst
      refine ⟨.inr q, ?_, fun m' h => (by simp at h), fun _ => ⟨_, hq, rfl⟩⟩
      simp only [rnd, hl, Sum.elim_inr, Option.bind_some, Sum.isLeft_inr, Bool.false_eq_true, if_false]
    | some m1 =>
      obtain ⟨rfl, hm1⟩ := e2 m1 hst
      obtain ⟨x, f1, f2, f3⟩ := OY ok hg hr hn b ss m1 hm1 fun s' h' => hs s' (by simp [h'])
      refine ⟨x, ?_, f2, f3⟩
      simp only [rnd, hl, Sum.elim_inl, Option.bind_some, Sum.isLeft_inl, if_true]
      exact f1

theorem ZE {size hop frm front : Int} (ok : OkH size hop frm front) {g : List aE × List aB} (hg : eW g.2 = true) (hr : g.1.length ≤ 4398046510976) {n : Nat} (hn : n ≤ 900000) {m : List (Int × aS)} (hm : BV n g.1 m) :
    ∃ x, sQ m g.1 g.2 size hop frm front = some x ∧ (∀ m', dH (lJ size g) m (mY size hop frm front g.2) = some m' → x = (true, m') ∧ BV n g.1 m') ∧ (dH (lJ size g) m (mY size hop frm front g.2) = none → x.1 = false) := by
  obtain ⟨x, e1, e2, e3⟩ := OY ok hg hr hn false (zG g.2) m hm (GG hg)
  unfold sQ
  simp only [xI, Option.bind_some]
  rw [UF hg e1, Option.bind_some]
  unfold mY
  cases hst : dH (lJ size g) m ((zG g.2).flatMap (mN size hop frm front)) with
  | none =>
    obtain ⟨q, hq, rfl⟩ := e3 hst
    exact ⟨_, rfl, fun m' h => (by cases h), fun _ => hq⟩
  | some m1 =>
    obtain ⟨rfl, hm1⟩ := e2 m1 hst
    exact ⟨_, rfl, fun m' h => (by cases h; exact ⟨rfl, hm1⟩), fun h => (by cases h)⟩

end Go.Abs
namespace Go.Abs
open Go
theorem CW {hop n x : Int} (hh : 1 ≤ hop) (h0 : 0 ≤ x) (hx : ∃ k : Int, x = k * hop) (h : n < x) : iQ hop n ≤ x := by
  unfold iQ
  split
  · exact h0
  · obtain ⟨k, rfl⟩ := hx
    have hf := DR (n := n) hh
    have : n / hop < k := by
      rcases Int.lt_or_le (n / hop) k with h1 | h1
      · exact h1
      · have := Int.mul_le_mul_of_nonneg_right h1 (show 0 ≤ hop by omega)
        omega
    exact Int.mul_le_mul_of_nonneg_right (show n / hop + 1 ≤ k by omega) (by omega)

theorem SD {size hop frm : Int} {s : bJ} (hh : 1 ≤ hop) (hf : 0 ≤ frm) : 0 ≤ rH size hop frm s ∧ (∃ k : Int, rH size hop frm s = k * hop) ∧ s.From - size < rH size hop frm s ∧ frm ≤ rH size hop frm s ∧
    ∀ x : Int, 0 ≤ x → (∃ k : Int, x = k * hop) → s.From - size < x → frm ≤ x → rH size hop frm s ≤ x := by
  obtain ⟨a1, a2, _, _, a5⟩ := vU (n := s.From - size) hh
  obtain ⟨b1, b2, _, _, b5⟩ := vU (n := frm - 1) hh
  unfold rH
  refine ⟨by omega, ?_, by omega, by omega, fun x x0 xk x1 x2 => ?_⟩
  · rcases Int.le_total (iQ hop (s.From - size)) (iQ hop (frm - 1)) with h | h
    · rw [Int.max_eq_right h]; exact b5
    · rw [Int.max_eq_left h]; exact a5
  · have c1 := CW hh x0 xk x1
    have c2 := CW hh x0 xk (show frm - 1 < x by omega)
    omega

theorem FX {size hop frm front : Int} (ok : OkH size hop frm front) {s : bJ} {x : Int} : x ∈ mN size hop frm front s ↔ 0 ≤ x ∧ (∃ k : Int, x = k * hop) ∧ frm ≤ x ∧ x < front ∧ x < 1125899906842624 ∧ s.From - size < x ∧ x < s.To := by
  obtain ⟨f1, ⟨q, f2⟩, f3, f4, f5⟩ := SD (size := size) (s := s) ok.h0 ok.f0
  have hb : x < sP front s ↔ x < s.To ∧ x < front ∧ x < 1125899906842624 := by unfold sP; omega
  unfold mN
  rw [OM ok.h0]
  constructor
  · rintro ⟨k, h1, h2⟩
    have h3 := hb.1 h2
    have h4 : 0 ≤ (k : Int) * hop := Int.mul_nonneg (by omega) (by have := ok.h0; omega)
    refine ⟨by omega, ⟨q + k, ?_⟩, by omega, h3.2.1, h3.2.2, by omega, h3.1⟩
    rw [Int.add_mul]; omega
  · rintro ⟨h1, ⟨k, hk⟩, h2, h3, h4, h5, h6⟩
    have h7 := f5 x h1 ⟨k, hk⟩ h5 h2
    have h8 : q ≤ k := by
      rcases Int.lt_or_le k q with hlt | hle
      · have u := Int.mul_le_mul_of_nonneg_right (show k + 1 ≤ q by omega) (show 0 ≤ hop by have := ok.h0; omega)
        have u0 := ok.h0
        rw [Int.add_mul] at u
        omega
      · exact hle
    refine ⟨(k - q).toNat, ?_, hb.2 ⟨h6, h3, h4⟩⟩
    rw [Int.toNat_of_nonneg (by omega), Int.sub_mul]; omega

def GX (size hop : Int) (s : bJ) (frm front : Int) : List Int × Int :=
  if !vN size hop then ([], 2) else if !(mS frm && mS front) then ([], 13) else if s.From < -1 ∨ s.To ≤ s.From ∨ 1125899906842624 < s.To then ([], 14)
  else if 1024 < (mN size hop frm front s).length then ([], 7) else (mN size hop frm front s, 0)

theorem VG {size hop frm front : Int} (hm : vN size hop = true) (h1 : mS frm = true) (h2 : mS front = true) : OkH size hop frm front := by
  have a := MR hm; have b := yD h1; have c := yD h2
  exact ⟨a.1, a.2.1, a.2.2.1, a.2.2.2, b.1, b.2, c.1, c.2⟩

theorem MQ {c0 : Int} {c1 : bJ} {c2 c3 c4 : Int} (a : List Int) (b : Int) : ∀ (ts out : List Int), out.length ≤ 1024 →
    ∃ x, rX (fun st t => rnd (fun (s : (List Int) × Int × List Int) => lG c0 c1 c2 c3 c4 s.1 s.2.1 s.2.2 t) st) ts (.inl (a, b, out)) = some x ∧ (if 1024 < out.length + ts.length then ∃ q, x = .inr ([], 7, q) else x = .inl (a, b, out ++ ts))
  | [], out, ho => ⟨_, rfl, by rw [if_neg (by simp; omega)]; simp⟩
  | t :: ts, out, ho => by
    by_cases hl : out.length = 1024
    · refine ⟨.inr ([], 7, out), ?_, by rw [if_pos (by simp only [List.length_cons]; omega)]; exact ⟨_, rfl⟩⟩
      have hb : lG c0 c1 c2 c3 c4 a b out t = some (.inr ([], 7, out)) := by
        unfold lG
        rw [decide_eq_true (by omega), cond_true]
      simp only [rX, rnd, hb, Option.bind_some, Sum.isLeft_inr, Bool.false_eq_true, if_false]
    · obtain ⟨x, h1, h2⟩ := MQ a b ts (out ++ [t]) (by simp; omega)
      refine ⟨x, ?_, ?_⟩
      · have hb : lG c0 c1 c2 c3 c4 a b out t = some (.inl (a, b, out ++ [t])) := by
          unfold lG
          rw [decide_eq_false (by omega), cond_false, aP (by simp only [List.length_cons, List.length_nil]; omega)]
        simp only [rX, rnd, hb, Option.bind_some, Sum.isLeft_inl, if_true]
        exact h1
      · have e : (out ++ [t]).length + ts.length = out.length + (t :: ts).length := by simp; omega
        rw [e] at h2
        simpa using h2

theorem WO (size hop : Int) (s : bJ) (frm front : Int) : sO size hop s frm front = some (GX size hop s frm front) := by
  unfold sO GX
  simp only [qE, mT, Option.bind_some]
  rw [show ((((decide ((1 : Int) ≤ size)) && (decide (size ≤ (1099511627776 : Int)))) && (decide ((1 : Int) ≤ hop))) && (decide (hop ≤ (1099511627776 : Int)))) = vN size hop from rfl, show ((decide ((0 : Int) ≤ frm)) && (decide (frm ≤ (1125899906842624 : Int)))) = mS frm from rfl, show ((decide ((0 : Int) ≤ front)) && (decide (front ≤ (1125899906842624 : Int)))) = mS front from rfl]
  cases hm : vN size hop with
  | false => rfl
  | true =>
    cases h1 : mS frm with
    | false => rfl
    | true =>
      cases h2 : mS front with
      | false => rfl
      | true =>
        simp only [Bool.not_true, cond_false, Bool.not_false, cW, cond_true, Option.bind_some, Bool.or_self, Bool.and_self, Bool.false_eq_true, if_false]
        by_cases hs : s.From < -1 ∨ s.To ≤ s.From ∨ 1125899906842624 < s.To
        · have : (((decide (s.From < (-1 : Int))) || (decide (s.To ≤ s.From))) || (decide ((1125899906842624 : Int) < s.To))) = true := by simp only [Bool.or_eq_true, decide_eq_true_eq]; omega
          rw [this, if_pos hs]; rfl
        · have : (((decide (s.From < (-1 : Int))) || (decide (s.To ≤ s.From))) || (decide ((1125899906842624 : Int) < s.To))) = false := by simp only [Bool.or_eq_false_iff, decide_eq_false_iff_not]; omega
          rw [this, if_neg hs, cond_false]
          have ok := VG hm h1 h2
          simp only [pV, Option.bind_some, uQ]
          obtain ⟨x, e1, e2⟩ := MQ (c0 := hop) (c1 := s) (c2 := size) (c3 := frm) (c4 := front) [] 0 (mN size hop frm front s) [] (by simp)
          rw [JY ok (by omega) (by omega) e1, Option.bind_some]
          simp only [List.length_nil, Nat.zero_add, List.nil_append] at e2
          by_cases hl : 1024 < (mN size hop frm front s).length
          · rw [if_pos hl] at e2 ⊢
            obtain ⟨q, rfl⟩ := e2
            rfl
          · rw [if_neg hl] at e2 ⊢
            subst e2
            rfl

end Go.Abs
namespace Go.Abs
open Go
abbrev G1 := List aE × List aB

def fJ (size t : Int) : Int := min (t + size) 1125899906842624

def tM (size t : Int) (gs : List G1) : List dQ := gs.filterMap fun g => if 0 < eK g.2 t (fJ size t) then some ⟨g.1, eK g.2 t (fJ size t)⟩ else none

def pP (size hop frm front : Int) (gs : List G1) (m : List (Int × aS)) : Option (List (Int × aS)) := dH (fun m g => dH (lJ size g) m (mY size hop frm front g.2)) m gs

def tW (size hop frm front : Int) (gs : List G1) : List Int := gs.flatMap fun g => mY size hop frm front g.2

def wV (size hop frm front : Int) (gs : List G1) : List Int := (tW size hop frm front gs).foldl (fun c t => nE t c) []

def tT (c : List Int) (ts : List Int) : List Int := ts.foldl (fun c t => nE t c) c

theorem AH (c : List Int) (t : Int) (ts : List Int) : tT c (t :: ts) = tT (nE t c) ts := rfl

theorem SO (c a b : List Int) : tT c (a ++ b) = tT (tT c a) b := List.foldl_append ..

theorem HE {last : Int} : ∀ {ts c : List Int}, Inc last c → (∀ t ∈ ts, last < t ∧ t < 1125899906842624) → Inc last (tT c ts)
  | [], c, h, _ => h
  | t :: ts, c, h, ht => by
    rw [AH]
    exact HE (DH h (ht t (by simp)).1 (ht t (by simp)).2) fun x hx => ht x (by simp [hx])

theorem PT {x : Int} : ∀ {ts c : List Int}, x ∈ tT c ts ↔ x ∈ ts ∨ x ∈ c
  | [], c => by simp [tT]
  | t :: ts, c => by
    rw [AH, PT, MO]
    simp only [List.mem_cons]
    constructor
    · rintro (h | h | h)
      · exact .inl (.inr h)
      · exact .inl (.inl h)
      · exact .inr h
    · rintro ((h | h) | h)
      · exact .inr (.inl h)
      · exact .inl h
      · exact .inr (.inr h)

theorem JN {t : Int} : ∀ {ps : List Int}, ps.length ≤ (nE t ps).length
  | [] => by simp [nE]
  | p :: r => by
    unfold nE
    split
    · exact Nat.le_refl _
    · split
      · simp
      · simp only [List.length_cons]
        have := JN (t := t) (ps := r)
        omega

theorem EF : ∀ {ts c : List Int}, c.length ≤ (tT c ts).length
  | [], c => Nat.le_refl _
  | t :: ts, c => by
    rw [AH]
    exact Nat.le_trans JN EF

theorem JE {size : Int} {g : G1} {last : Int} : ∀ {ts : List Int} {m : List (Int × aS)} {c : List Int}, Inc last c → (∀ t ∈ ts, last < t ∧ t < 1125899906842624) → (m.map (·.1)).Perm c → m.length ≤ 1024 →
    (∀ m', dH (lJ size g) m ts = some m' → (m'.map (·.1)).Perm (tT c ts) ∧ m'.length ≤ 1024) ∧ (dH (lJ size g) m ts = none → 1024 < (tT c ts).length)
  | [], m, c, _, _, hp, hl => ⟨fun m' h => by simp only [dH, Option.some.injEq] at h; subst h; exact ⟨hp, hl⟩, fun h => by simp [dH] at h⟩
  | t :: ts, m, c, hi, ht, hp, hl => by
    have ht0 := ht t (by simp)
    have hi' := DH hi ht0.1 ht0.2
    have rec1 := fun (m1 : List (Int × aS)) => JE (size := size) (g := g) (last := last) (ts := ts) (m := m1) (c := nE t c) hi' (fun x hx => ht x (by simp [hx]))
    simp only [dH, AH]
    cases hg : fE m t with
    | none =>
      have hk : t ∉ m.map (·.1) := EM.1 hg
      have hk' : t ∉ c := fun h => hk (hp.mem_iff.2 h)
      have hw := JF hk'
      by_cases hf : m.length = 1024
      · have e : lJ size g m t = none := by unfold lJ; rw [hg]; simp [hf]
        rw [e]
        refine ⟨fun m' h => (by simp at h), fun _ => ?_⟩
        have h1 := hw.length_eq
        have h2 := hp.length_eq
        have h3 := EF (ts := ts) (c := nE t c)
        simp only [List.length_map, List.length_cons] at h1 h2
        omega
      · have e : lJ size g m t = some (gP m t (iX g (mkW size t))) := by unfold lJ; rw [hg]; simp [hf]
        rw [e]
        have hp' : ((gP m t (iX g (mkW size t))).map (·.1)).Perm (nE t c) := by
          rw [MN hk]
          exact (List.perm_append_comm.trans (List.Perm.cons _ hp)).trans hw.symm
        refine rec1 _ hp' ?_
        have h1 := congrArg List.length (MN (v := iX g (mkW size t)) hk)
        simp only [List.length_map, List.length_append, List.length_cons, List.length_nil] at h1
        omega
    | some p =>
      have e : lJ size g m t = some (gP m t (iX g p)) := by unfold lJ; rw [hg]
      rw [e]
      have hk : t ∈ m.map (·.1) := by
        refine Decidable.byContradiction fun h => ?_
        rw [EM.2 h] at hg; cases hg
      have hw : nE t c = c := JO hi (hp.mem_iff.1 hk)
      have hk2 := MS (v := iX g p) hk
      refine rec1 _ (by rw [hk2, hw]; exact hp) ?_
      have h1 := congrArg List.length hk2
      simp only [List.length_map] at h1
      omega

theorem yW {size hop frm front : Int} (ok : OkH size hop frm front) (f : List aB) : ∀ t ∈ mY size hop frm front f, -1 < t ∧ t < 1125899906842624 := by
  intro t ht
  obtain ⟨s, _, hs⟩ := List.mem_flatMap.1 ht
  have := CU ok s t hs
  omega

theorem JH {size hop frm front : Int} (ok : OkH size hop frm front) : ∀ {gs : List G1} {m : List (Int × aS)} {c : List Int}, Inc (-1) c → (m.map (·.1)).Perm c → m.length ≤ 1024 →
    (∀ m', pP size hop frm front gs m = some m' → (m'.map (·.1)).Perm (tT c (tW size hop frm front gs)) ∧ m'.length ≤ 1024) ∧ (pP size hop frm front gs m = none → 1024 < (tT c (tW size hop frm front gs)).length)
  | [], m, c, _, hp, hl => ⟨fun m' h => by simp only [pP, dH, Option.some.injEq] at h; subst h; exact ⟨hp, hl⟩, fun h => by simp [pP, dH] at h⟩
  | g :: gs, m, c, hi, hp, hl => by
    obtain ⟨k1, k2⟩ := JE (size := size) (g := g) hi (yW ok g.2) hp hl
    have e : tW size hop frm front (g :: gs) = mY size hop frm front g.2 ++ tW size hop frm front gs := rfl
    rw [e, SO]
    simp only [pP, dH]
    cases hs : dH (lJ size g) m (mY size hop frm front g.2) with
    | none =>
      refine ⟨fun m' h => (by simp at h), fun _ => ?_⟩
      have := k2 hs
      have := EF (ts := tW size hop frm front gs) (c := tT c (mY size hop frm front g.2))
      omega
    | some m1 =>
      obtain ⟨p1, p2⟩ := k1 m1 hs
      exact JH ok (gs := gs) (m := m1) (HE hi (yW ok g.2)) p1 p2

theorem LC {size : Int} {g : G1} (x : Int) : ∀ {ts : List Int} {m m' : List (Int × aS)}, dH (lJ size g) m ts = some m' → fE m' x = if x ∈ ts then some (iX g ((fE m x).getD (mkW size x))) else fE m x
  | [], m, m', h => by simp only [dH, Option.some.injEq] at h; subst h; simp
  | t :: ts, m, m', h => by
    simp only [dH] at h
    obtain ⟨m1, h1, h2⟩ := aV h
    have e : ∃ p, m1 = gP m t (iX g p) ∧ p = (fE m t).getD (mkW size t) := by
      unfold lJ at h1
      cases hg : fE m t with
      | none =>
        rw [hg] at h1
        simp only at h1
        split at h1
        · cases h1
        · cases h1; exact ⟨_, rfl, rfl⟩
      | some p => rw [hg] at h1; cases h1; exact ⟨_, rfl, rfl⟩
    obtain ⟨p, rfl, rfl⟩ := e
    rw [LC x h2, EC]
    by_cases hx : x = t
    · subst hx
      simp only [if_true, List.mem_cons, true_or, Option.getD_some, PL, ite_self]
    · simp only [hx, if_false, List.mem_cons, false_or]

def vO (size hop frm front x : Int) (o : Option aS) (gs : List G1) : Option aS :=
  gs.foldl (fun o g => if x ∈ mY size hop frm front g.2 then some (iX g (o.getD (mkW size x))) else o) o

theorem LX {size hop frm front : Int} (x : Int) : ∀ {gs : List G1} {m m' : List (Int × aS)}, pP size hop frm front gs m = some m' → fE m' x = vO size hop frm front x (fE m x) gs
  | [], m, m', h => by simp only [pP, dH, Option.some.injEq] at h; subst h; rfl
  | g :: gs, m, m', h => by
    simp only [pP, dH] at h
    obtain ⟨m1, h1, h2⟩ := aV h
    have := LX x (gs := gs) h2
    rw [this, LC x h1]
    rfl

def sE (size hop frm front x : Int) (gs : List G1) : List dQ := gs.filterMap fun g => if x ∈ mY size hop frm front g.2 then some ⟨g.1, eK g.2 x (fJ size x)⟩ else none

theorem CK {size hop frm front x : Int} : ∀ {gs : List G1} {rs : List dQ}, rY gs → rs ≠ [] → (∀ g ∈ gs, (qK rs).Row ≠ g.1) → vO size hop frm front x (some ⟨⟨x, fJ size x⟩, rs⟩) gs = some ⟨⟨x, fJ size x⟩, rs ++ sE size hop frm front x gs⟩
  | [], rs, _, _, _ => by simp [vO, sE]
  | g :: gs, rs, hs, hn, hl => by
    have hs' := List.pairwise_cons.1 hs
    have hg := hl g (by simp)
    simp only [vO, List.foldl_cons, Option.getD_some]
    by_cases hx : x ∈ mY size hop frm front g.2
    · rw [if_pos hx]
      have e : iX g ⟨⟨x, fJ size x⟩, rs⟩ = ⟨⟨x, fJ size x⟩, rs ++ [⟨g.1, eK g.2 x (fJ size x)⟩]⟩ := by
        unfold iX
        rw [if_pos (.inr hg)]
      rw [e]
      have := CK (size := size) (hop := hop) (frm := frm) (front := front) (x := x) (gs := gs) (rs := rs ++ [⟨g.1, eK g.2 x (fJ size x)⟩]) hs'.2 (by simp) (fun q hq => by
        rw [vZ]
        intro h
        have := hs'.1 q hq
        unfold ltG at this
        rw [show g.1 = q.1 from h] at this
        exact qT this)
      unfold vO at this
      rw [this]
      simp [sE, hx]
    · rw [if_neg hx]
      have := CK (size := size) (hop := hop) (frm := frm) (front := front) (x := x) (gs := gs) (rs := rs) hs'.2 hn (fun q hq => hl q (by simp [hq]))
      unfold vO at this
      rw [this]
      simp [sE, hx]

theorem HP {size hop frm front x : Int} : ∀ {gs : List G1}, rY gs → vO size hop frm front x none gs = if sE size hop frm front x gs = [] then none else some ⟨⟨x, fJ size x⟩, sE size hop frm front x gs⟩
  | [], _ => by simp [vO, sE]
  | g :: gs, hs => by
    have hs' := List.pairwise_cons.1 hs
    simp only [vO, List.foldl_cons, Option.getD_none]
    by_cases hx : x ∈ mY size hop frm front g.2
    · rw [if_pos hx]
      have e : iX g (mkW size x) = ⟨⟨x, fJ size x⟩, [⟨g.1, eK g.2 x (fJ size x)⟩]⟩ := by
        unfold iX mkW
        rw [if_pos (.inl rfl)]; rfl
      rw [e]
      have := CK (size := size) (hop := hop) (frm := frm) (front := front) (x := x) (gs := gs) (rs := [⟨g.1, eK g.2 x (fJ size x)⟩]) hs'.2 (by simp) (fun q hq h => by
        have h1 := hs'.1 q hq
        unfold ltG at h1
        have h2 : g.1 = q.1 := h
        rw [h2] at h1
        exact qT h1)
      unfold vO at this
      rw [this]
      simp [sE, hx]
    · rw [if_neg hx]
      have := HP (size := size) (hop := hop) (frm := frm) (front := front) (x := x) (gs := gs) hs'.2
      unfold vO at this
      rw [this]
      have e : sE size hop frm front x (g :: gs) = sE size hop frm front x gs := by simp [sE, hx]
      rw [e]

theorem yJ {size hop frm front : Int} (ok : OkH size hop frm front) {f : List aB} (hf : eW f = true) (hv : ∀ t, 0 ≤ val f t) {x : Int} : x ∈ mY size hop frm front f ↔ (0 ≤ x ∧ (∃ k : Int, x = k * hop) ∧ frm ≤ x ∧ x < front ∧ x < 1125899906842624) ∧ 0 < eK f x (fJ size x) := by
  have hs0 := ok.s0
  unfold mY
  rw [List.mem_flatMap]
  constructor
  · rintro ⟨s, h1, h2⟩
    obtain ⟨a1, a2, a3, a4, a5, a6, a7⟩ := (FX ok).1 h2
    have hsp := GG hf s h1
    refine ⟨⟨a1, a2, a3, a4, a5⟩, (FV hf hv (by unfold fJ; omega)).2 ⟨max x s.From, by omega, by unfold fJ; omega, ?_⟩⟩
    exact (IS hf hv (by omega)).1 ⟨s, h1, by omega, by omega⟩
  · rintro ⟨⟨a1, a2, a3, a4, a5⟩, h⟩
    obtain ⟨y, y1, y2, y3⟩ := (FV hf hv (by unfold fJ; omega)).1 h
    unfold fJ at y2
    obtain ⟨s, h1, h2, h3⟩ := (IS hf hv (by omega)).2 y3
    exact ⟨s, h1, (FX ok).2 ⟨a1, a2, a3, a4, a5, by omega, by omega⟩⟩

theorem filterMap_eq {α β : Type} {f h : α → Option β} : ∀ {l : List α}, (∀ a ∈ l, f a = h a) → l.filterMap f = l.filterMap h
  | [], _ => rfl
  | a :: l, H => by
    rw [List.filterMap_cons, List.filterMap_cons, H a (by simp), filterMap_eq fun b hb => H b (by simp [hb])]

theorem XN {size hop frm front x : Int} (ok : OkH size hop frm front) (hx : 0 ≤ x ∧ (∃ k : Int, x = k * hop) ∧ frm ≤ x ∧ x < front ∧ x < 1125899906842624) {gs : List G1} (hg : ∀ g ∈ gs, eW g.2 = true ∧ ∀ t, 0 ≤ val g.2 t) : sE size hop frm front x gs = tM size x gs := by
  unfold sE tM
  refine filterMap_eq fun g h => ?_
  have := yJ ok (hg g h).1 (hg g h).2 (x := x)
  by_cases hb : 0 < eK g.2 x (fJ size x)
  · rw [if_pos (this.2 ⟨hx, hb⟩), if_pos hb]
  · rw [if_neg (fun q => hb (this.1 q).2), if_neg hb]

def AZ (size hop frm front : Int) (gs : List G1) : List aS := (wV size hop frm front gs).map fun t => ⟨⟨t, fJ size t⟩, tM size t gs⟩

theorem QJ {size hop frm front x : Int} {gs : List G1} : x ∈ wV size hop frm front gs ↔ ∃ g ∈ gs, x ∈ mY size hop frm front g.2 := by
  have : wV size hop frm front gs = tT [] (tW size hop frm front gs) := rfl
  rw [this, PT]
  simp [tW, List.mem_flatMap]

theorem QF {size hop frm front : Int} (ok : OkH size hop frm front) (gs : List G1) : Inc (-1) (wV size hop frm front gs) := by
  refine HE (ts := tW size hop frm front gs) (c := []) trivial fun t ht => ?_
  obtain ⟨g, _, h⟩ := List.mem_flatMap.1 ht
  exact yW ok g.2 t h

theorem aAb {size hop frm front : Int} (ok : OkH size hop frm front) {gs : List G1} (hs : rY gs) (hg : ∀ g ∈ gs, eW g.2 = true ∧ ∀ t, 0 ≤ val g.2 t) :
    (∀ m', pP size hop frm front gs [] = some m' → (wV size hop frm front gs).length ≤ 1024 ∧ (m'.map (·.1)).Perm (wV size hop frm front gs) ∧ ∀ x ∈ wV size hop frm front gs, fE m' x = some ⟨⟨x, fJ size x⟩, tM size x gs⟩) ∧
    (pP size hop frm front gs [] = none → 1024 < (wV size hop frm front gs).length) := by
  obtain ⟨k1, k2⟩ := JH ok (gs := gs) (m := []) (c := []) trivial (List.Perm.refl _) (by simp)
  refine ⟨fun m' h => ?_, k2⟩
  obtain ⟨p1, p2⟩ := k1 m' h
  refine ⟨?_, p1, fun x hx => ?_⟩
  · have := p1.length_eq
    simp only [List.length_map] at this
    show (tT [] (tW size hop frm front gs)).length ≤ 1024
    omega
  · rw [LX x h]
    obtain ⟨g, hgm, hxg⟩ := QJ.1 hx
    have hxx := (yJ ok (hg g hgm).1 (hg g hgm).2).1 hxg
    have e : fE ([] : List (Int × aS)) x = none := rfl
    rw [e, HP hs, ← XN ok hxx.1 hg, if_neg]
    intro hc
    have : (⟨g.1, eK g.2 x (fJ size x)⟩ : dQ) ∈ sE size hop frm front x gs := List.mem_filterMap.2 ⟨g, hgm, by rw [if_pos hxg]⟩
    rw [hc] at this
    simp at this

end Go.Abs
namespace Go.Abs
open Go
def nA (l : List aM) (size hop frm front : Int) : List aS × Int :=
  if !(vN size hop && lF l) then ([], 2) else if !uH l then ([], 20) else if !(mS frm && mS front) then ([], 13)
  else if 1024 < (wV size hop frm front (groups l)).length then ([], 7) else (AZ size hop frm front (groups l), 0)

def aBZ (n : Nat) (m : List (Int × aS)) : Prop := ∀ t p, fE m t = some p → p.Rows.length ≤ n ∧ (p.Rows ≠ [] → (qK p.Rows).Row.length ≤ 4398046510976)

theorem IL {size hop frm front : Int} (ok : OkH size hop frm front) (a : List aS) (b : Int) : ∀ (gs : List G1) (n : Nat) (m : List (Int × aS)), (∀ g ∈ gs, eW g.2 = true ∧ g.1.length ≤ 4398046510976) → n + gs.length ≤ 900000 → aBZ n m →
    ∃ x, itG (fun st r f => rnd (fun (q : List aS × Int × List (Int × aS)) => lW size hop frm front q.1 q.2.1 q.2.2 r f) st) gs (.inl (a, b, m)) = some x ∧ (∀ m', pP size hop frm front gs m = some m' → x = .inl (a, b, m')) ∧ (pP size hop frm front gs m = none → ∃ q, x = .inr ([], 7, q))
  | [], n, m, _, _, _ => ⟨_, rfl, fun m' h => by simp only [pP, dH, Option.some.injEq] at h; subst h; rfl, fun h => by simp [pP, dH] at h⟩
  | g :: gs, n, m, hg, hn, hm => by
    obtain ⟨h1, h2⟩ := hg g (by simp)
    simp only [List.length_cons] at hn
    obtain ⟨y, e1, e2, e3⟩ := ZE ok (g := g) h1 h2 (n := n) (by omega) (m := m) (fun t p h => ⟨.inl (hm t p h).1, (hm t p h).2⟩)
    simp only [itG, pP, dH]
    cases hs : dH (lJ size g) m (mY size hop frm front g.2) with
    | none =>
      have e4 := e3 hs
      refine ⟨.inr ([], 7, y.2), ?_, fun m' h => (by simp at h), fun _ => ⟨_, rfl⟩⟩
      have hb : lW size hop frm front a b m g.1 g.2 = some (.inr ([], 7, y.2)) := by
        unfold lW
        rw [e1, Option.bind_some, e4]; rfl
      simp only [rnd, hb, Option.bind_some, Sum.isLeft_inr, Bool.false_eq_true, if_false]
    | some m1 =>
      obtain ⟨rfl, hf⟩ := e2 m1 hs
      have hm1 : aBZ (n + 1) m1 := fun t p h => by
        obtain ⟨q1, q2⟩ := hf t p h
        refine ⟨?_, q2⟩
        rcases q1 with q | ⟨_, _, q⟩ <;> omega
      obtain ⟨x, f1, f2, f3⟩ := IL ok a b gs (n + 1) m1 (fun q hq => hg q (by simp [hq])) (by omega) hm1
      refine ⟨x, ?_, f2, f3⟩
      have hb : lW size hop frm front a b m g.1 g.2 = some (.inl (a, b, m1)) := by
        unfold lW
        rw [e1, Option.bind_some]; rfl
      simp only [rnd, hb, Option.bind_some, Sum.isLeft_inl, if_true]
      exact f1

theorem HS : ∀ (q s : List Int), s.length + q.length ≤ 100000 → dH pX s q = some (s ++ q)
  | [], s, _ => by simp [dH]
  | t :: q, s, h => by
    simp only [List.length_cons] at h
    have e : pX s t = some (s ++ [t]) := by
      unfold pX
      rw [aP (by simp only [List.length_cons, List.length_nil]; omega)]
    simp only [dH, e, Option.bind_some]
    rw [HS q (s ++ [t]) (by simp; omega)]
    simp

theorem aCC {m : List (Int × aS)} {B : List Int} {mk : Int → aS} (hp : (m.map (·.1)).Perm B) (hs : B.Pairwise (· ≤ ·)) (hl : B.length ≤ 1024) (hg : ∀ x ∈ B, fE m x = some (mk x)) : tC m = some (B.map mk, 0) := by
  have hml : m.length = B.length := by simpa using hp.length_eq
  unfold tC
  rw [aP (by simp only [lN]; omega)]
  refine LQ fun q hq => ?_
  have hqB : q.Perm B := hq.trans hp
  have hql := hqB.length_eq
  rw [HS q [] (by simp only [List.length_nil]; omega), Option.bind_some, List.nil_append]
  unfold zO
  rw [aBo (by omega) hqB.symm hs, Option.bind_some, aP (by simp only [lN]; omega)]
  have key := yQ (l := B) (body := fun s : List aS × Int => pT m B (lN B) s.1 s.2) (fun (s : List aS) i => (s, i)) (fun s r => s ++ r.map mk)
    (fun s r => s.length + r.length ≤ 100000 ∧ ∀ x ∈ r, x ∈ B) [] ?_ ?_ ⟨by simp only [List.length_nil]; omega, fun x hx => hx⟩
  · rw [key]
    simp
  · rintro i x r s hx ⟨h1, h2⟩
    left
    simp only [List.length_cons] at h1
    obtain ⟨d1, d2, d3, d4⟩ := idx hx (by omega)
    refine ⟨s ++ [mk x], ?_, ⟨by simp; omega, fun y hy => h2 y (by simp [hy])⟩, by simp⟩
    simp only [pT, lN, gD, wR, d1, cond_true, aP d2, d3, d4, hg x (h2 x (by simp))]
    rw [aP (by simp only [List.length_cons, List.length_nil]; omega)]
  · rintro s _
    simp only [pT, lN, lC, cond_false]
    simp

theorem AX {l : List aM} (hl : okL l) (size hop frm front : Int) : pK l size hop frm front = some (nA l size hop frm front) := by
  unfold pK nA
  simp only [qE, mT, Option.bind_some]
  rw [show ((((decide ((1 : Int) ≤ size)) && (decide (size ≤ (1099511627776 : Int)))) && (decide ((1 : Int) ≤ hop))) && (decide (hop ≤ (1099511627776 : Int)))) = vN size hop from rfl, show ((decide ((0 : Int) ≤ frm)) && (decide (frm ≤ (1125899906842624 : Int)))) = mS frm from rfl, show ((decide ((0 : Int) ≤ front)) && (decide (front ≤ (1125899906842624 : Int)))) = mS front from rfl]
  rw [JZ hl, YE hl]
  cases hm : vN size hop with
  | false => rfl
  | true =>
    cases he : lF l with
    | false => rfl
    | true =>
      simp only [Bool.not_true, Bool.not_false, cW, cond_true, Option.bind_some, Bool.or_self, cond_false, Bool.and_self, Bool.false_eq_true, if_false]
      cases ht : uH l with
      | false => rfl
      | true =>
        simp only [Bool.not_true, cond_false, Bool.false_eq_true, if_false]
        cases h1 : mS frm with
        | false => rfl
        | true =>
          cases h2 : mS front with
          | false => rfl
          | true =>
            simp only [Bool.not_true, Bool.not_false, cond_true, Option.bind_some, Bool.or_self, cond_false, Bool.and_self, Bool.false_eq_true, if_false]
            have ok := VG hm h1 h2
            obtain ⟨e1, e2, e3⟩ := oA he
            have hn := IP l
            have hv : ∀ g ∈ groups l, eW g.2 = true ∧ ∀ t, 0 ≤ val g.2 t := fun g hg => by
              refine ⟨(e2 g hg).2, fun t => ?_⟩
              have := (HU.1 ht).2 g.1 t
              rwa [← qG e3, wJ e3 hg] at this
            have hrow : ∀ g ∈ groups l, eW g.2 = true ∧ g.1.length ≤ 4398046510976 := fun g hg => ⟨(e2 g hg).2, zZ hl hg⟩
            unfold zJ
            simp only [uM, Option.bind_some]
            obtain ⟨x, f1, f2, f3⟩ := IL ok [] 0 (groups l) 0 [] hrow (by omega) (fun t p h => by simp [fE] at h)
            rw [VO hl (s' := x) (by rw [he]; exact f1), Option.bind_some]
            obtain ⟨k1, k2⟩ := aAb ok e3 hv
            cases hs : pP size hop frm front (groups l) [] with
            | none =>
              obtain ⟨q, rfl⟩ := f3 hs
              rw [if_pos (k2 hs)]; rfl
            | some m1 =>
              obtain rfl := f2 m1 hs
              obtain ⟨p1, p2, p3⟩ := k1 m1 hs
              rw [if_neg (by omega)]
              simp only [Sum.elim_inl]
              exact aCC p2 (aBh (QF ok _)) p1 p3

end Go.Abs
namespace Go.Abs
open Go
theorem UE (size t : Int) (g : G1) (gs : List G1) : tM size t (g :: gs) = (if 0 < eK g.2 t (fJ size t) then [⟨g.1, eK g.2 t (fJ size t)⟩] else []) ++ tM size t gs := by
  unfold tM
  by_cases h : 0 < eK g.2 t (fJ size t) <;> simp [h]

end Go.Abs
namespace Go.Abs
open Go
theorem IA {t : Int} (f : List aB) : jL t (BE t f) = jL t f := by
  have key : ∀ (a b : List aB), (∀ j ∈ a, j.At < t) → (∀ j ∈ b, t ≤ j.At) → jL t (a ++ b) = a := by
    intro a
    induction a with
    | nil =>
      intro b _ hb
      cases b with
      | nil => rfl
      | cons k b => simp only [List.nil_append, jL]; rw [if_pos (hb k (by simp))]
    | cons k a ih =>
      intro b ha hb
      have := ha k (by simp)
      simp only [List.cons_append, jL]
      rw [if_neg (by omega), ih b (fun j hj => ha j (by simp [hj])) hb]
  unfold BE
  refine key _ _ (fun j hj => KN j hj) fun j hj => ?_
  split at hj
  · simp at hj
  · simp only [List.mem_singleton] at hj
    subst hj
    exact Int.le_refl _

theorem aAa {f : List aB} {t : Int} (hf : eW f = true) (ht : t < 1125899906842624) (h : (ahead f t).2 = 0) : (ahead f t).1 = BE t f := by
  unfold ahead at h ⊢
  rw [if_pos hf, if_neg (by omega)] at h ⊢
  unfold told at h ⊢
  split at h
  · rename_i c; rw [if_pos c]
  · simp at h

theorem jV {l : List aM} (h : lF l = true) (r : List aE) : look (groups l) r = gR l r := qG (oA h).2.2 r

theorem aAK {by1 : List aB → List aB × Int} {l : List aM} (hb : ∀ f, eW f = true → (by1 f).2 = 0 → eW (by1 f).1 = true) (h : (uW by1 l).2 = 0) : lF (uW by1 l).1 = true := by
  obtain ⟨h1, h2, h3, h4⟩ := yS h
  obtain ⟨_, g1, g2⟩ := oA h1
  rw [h3] at h4 ⊢
  refine XM (CH g2) (fun g hg => ?_) h4
  obtain ⟨q, hq, rfl⟩ := List.mem_map.1 hg
  exact ⟨(g1 q hq).1, hb _ (g1 q hq).2 (h2 q hq)⟩

theorem aBG {f : List aB} (h : (told f).2 = 0) : eW (told f).1 = true := by
  unfold told at h ⊢
  split at h
  · rename_i c; rw [if_pos c]; exact c
  · simp at h

theorem ZK {f : List aB} {t : Int} (hf : eW f = true) (h : (ahead f t).2 = 0) : eW (ahead f t).1 = true := by
  unfold ahead at h ⊢
  rw [if_pos hf] at h ⊢
  split
  · exact hf
  · rename_i c; rw [if_neg c] at h; exact aBG h

theorem yO {l : List aM} {t : Int} (h : (oH l t).2 = 0) : lF (oH l t).1 = true := aAK (fun _ a b => ZK a b) h

theorem ED {l : List aM} {t : Int} (h0 : 0 ≤ t) (ht : t < 1125899906842624) (h : (oH l t).2 = 0) (r : List aE) : gR (oH l t).1 r = BE t (gR l r) := by
  have hm := (yS h).1
  have h1 := MU (by1 := fun f => ahead f t) (by rw [MV h0]) h r
  have h2 := aAh (by1 := fun f => ahead f t) (by rw [MV h0]) h r
  rw [jV hm] at h1 h2
  have := jV (yO h) r
  unfold oH at this ⊢
  rw [← this, h1, aAa (yK hm r) ht h2]

end Go.Abs
namespace Go.Abs
open Go
theorem LU {gs : List (List aE × List aB)} (hs : rY gs) (r : List aE) : look (wP gs) r = look gs r := by
  rw [← vT hs, MH hs]

theorem WS {a b t : Int} (hb : b ≤ t) {f : List aB} {l : Int} (hf : nH l f) : f.filter (inW a b) = (jL t f).filter (inW a b) := by
  conv => lhs; rw [← HK t f]
  rw [List.filter_append]
  have : (aft t f).filter (inW a b) = [] := List.filter_eq_nil_iff.2 fun j hj => by
    have := QS hf j hj
    simp [inW]; omega
  rw [this, List.append_nil]

end Go.Abs
namespace Go.Abs
open Go
def l28 : List aM := [⟨[HZ], 3, 1⟩, ⟨[HZ], 7, -1⟩]

theorem aB0 : okL l28 := ⟨by decide, by decide⟩

theorem aCi : UG 10 5 12 = (5, 0) := by decide +kernel

theorem aAs : GX 10 5 ⟨3, 7⟩ 0 100 = ([0, 5], 0) := by decide +kernel

theorem aBC : nA l28 10 5 0 100 = ([⟨⟨0, 10⟩, [⟨[HZ], 1⟩]⟩, ⟨⟨5, 15⟩, [⟨[HZ], 1⟩]⟩], 0) := by decide +kernel

theorem uZ : oG = some true := by
  unfold oG
  have h1 := AX aB0 10 5 0 100
  rw [aBC] at h1
  simp only [l28, HZ] at h1
  rw [aBc, aCi, Option.bind_some, WO, aAs, Option.bind_some, h1, Option.bind_some, aP (fun _ => by decide), aP (fun _ => by decide), aP (fun _ => by decide)]
  rfl

theorem ZF {gs : List G1} (hg : ∀ g ∈ gs, eW g.2 = true ∧ g.1.length ≤ 4398046510976) (hn : gs.length ≤ 1000000) (size t : Int) : okC (tM size t gs) := by
  refine ⟨by have : (tM size t gs).length ≤ gs.length := List.length_filterMap_le ..; omega, fun c hc => ?_⟩
  obtain ⟨g, h1, h2⟩ := List.mem_filterMap.1 hc
  split at h2
  · simp only [Option.some.injEq] at h2; subst h2
    have := (hg g h1).2; simp only; omega
  · cases h2

theorem FU {l : List aM} (hl : okL l) (size hop frm front : Int) : (nA l size hop frm front).1.length ≤ 1024 ∧ ∀ p ∈ (nA l size hop frm front).1, okC p.Rows := by
  unfold nA
  cases hm : vN size hop && lF l with
  | false => simp
  | true =>
    have he : lF l = true := (Bool.and_eq_true .. |>.mp hm).2
    obtain ⟨g1, g2⟩ := UL hl he
    simp only [Bool.not_true, Bool.false_eq_true, if_false]
    split
    · simp
    · split
      · simp
      · split
        · simp
        · rename_i h
          refine ⟨by simp only [AZ, List.length_map]; omega, fun p hp => ?_⟩
          obtain ⟨t, _, rfl⟩ := List.mem_map.1 hp
          exact ZF g1 (by omega) _ _

theorem JD {l : List aM} {size hop frm front : Int} (h : (nA l size hop frm front).2 = 0) : vN size hop = true ∧ lF l = true ∧ uH l = true ∧ mS frm = true ∧ mS front = true ∧ (nA l size hop frm front).1 = AZ size hop frm front (groups l) := by
  unfold nA at h ⊢
  split at h
  · simp at h
  · rename_i h1
    split at h
    · simp at h
    · rename_i h2
      split at h
      · simp at h
      · rename_i h3
        split at h
        · simp at h
        · rename_i h4
          simp only [Bool.not_eq_true', Bool.not_eq_false, Bool.and_eq_true] at h1 h2 h3
          rw [if_neg (by simp [h1]), if_neg (by simp [h2]), if_neg (by simp [h3]), if_neg h4]
          exact ⟨h1.1, h1.2, h2, h3.1, h3.2, rfl⟩

theorem FW (a b : Int) : eK [] a b = 0 := rfl

def byH (a b : Int) (f : List aB) : List aB × Int := (if 0 < eK f a b then [⟨0, eK f a b⟩] else [], 0)

theorem GJ (size t : Int) : ∀ gs : List G1, tM size t gs = (wP (wO (byH t (fJ size t)) gs)).map fun g => (⟨g.1, (g.2.map aB.Net).sum⟩ : dQ)
  | [] => rfl
  | g :: gs => by
    rw [UE, GJ size t gs]
    have e : wO (byH t (fJ size t)) (g :: gs) = (g.1, (byH t (fJ size t) g.2).1) :: wO (byH t (fJ size t)) gs := rfl
    rw [e]
    unfold wP byH
    by_cases h : 0 < eK g.2 t (fJ size t)
    · simp [h]
    · simp [h]

theorem WL {l m : List aM} {size t : Int} (hl : lF l = true) (hm : lF m = true) (h : ∀ r, eK (gR l r) t (fJ size t) = eK (gR m r) t (fJ size t)) : tM size t (groups l) = tM size t (groups m) := by
  have sl := (oA hl).2.2
  have sm := (oA hm).2.2
  have s1 := CH (by1 := byH t (fJ size t)) sl
  have s2 := CH (by1 := byH t (fJ size t)) sm
  have hn : (byH t (fJ size t) []).1 = [] := by unfold byH; rw [FW]; rfl
  rw [GJ, GJ, KK (gs := wP (wO (byH t (fJ size t)) (groups l))) (hs := wP (wO (byH t (fJ size t)) (groups m))) (s1.filter _) (s2.filter _) (DD _) (DD _) fun r => ?_]
  rw [LU s1, LU s2, AJ (by1 := byH t (fJ size t)) hn, AJ (by1 := byH t (fJ size t)) hn, jV hl, jV hm]
  unfold byH
  rw [h r]

theorem DO {l : List aM} (hl : lF l = true) (ht : uH l = true) {size hop frm front : Int} (ok : OkH size hop frm front) {x : Int} :
    x ∈ wV size hop frm front (groups l) ↔ (0 ≤ x ∧ (∃ k : Int, x = k * hop) ∧ frm ≤ x ∧ x < front ∧ x < 1125899906842624) ∧ ∃ r, 0 < eK (gR l r) x (fJ size x) := by
  rw [QJ]
  obtain ⟨_, h2, h3⟩ := oA hl
  have hv : ∀ g ∈ groups l, eW g.2 = true ∧ ∀ t, 0 ≤ val g.2 t := fun g hg => by
    refine ⟨(h2 g hg).2, fun t => ?_⟩
    have := (HU.1 ht).2 g.1 t
    rwa [← qG h3, wJ h3 hg] at this
  constructor
  · rintro ⟨g, hg, hx⟩
    obtain ⟨a, b⟩ := (yJ ok (hv g hg).1 (hv g hg).2).1 hx
    refine ⟨a, g.1, ?_⟩
    rwa [← qG h3, wJ h3 hg]
  · rintro ⟨a, r, hb⟩
    rw [← jV hl] at hb
    rcases yL (groups l) r with ⟨h4, _⟩ | ⟨g, hg, _, h4⟩
    · rw [h4, FW] at hb; omega
    · rw [h4] at hb
      exact ⟨g, hg, (yJ ok (hv g hg).1 (hv g hg).2).2 ⟨a, hb⟩⟩

theorem LW {size hop frm front : Int} (ok : OkH size hop frm front) (gs : List G1) : (wV size hop frm front gs).Pairwise (· < ·) := HD (QF ok gs)

theorem EI {f : List aB} {last t a b : Int} (hf : nH last f) (hab : a < b) (hb : b ≤ t) : eK f a b = eK (jL t f) a b := by
  unfold eK wG
  rw [OF hf (show a < t by omega), WS hb hf]

end Go.Abs
