/- What the law PackSides stands on: the framework, the given functions as plain functions, their walks, and the plain laws; part 5. -/
import Derived.Test.YtfepdngmgjmniaaPackSidesZ4
set_option linter.unusedSimpArgs false
set_option linter.unusedVariables false
namespace Go.Abs
open Go
variable {α : Type} [Inhabited α] {ok : α → Prop} {le : α → α → Prop} {cmp : α → α → Option Int}
theorem ZJ (C : Cmp ok le cmp) {d : List α} {bs : Nat} (hbs : 0 < bs) (hbs' : bs < d.length) (ho : Oks ok d) (hB : nS le bs d) (hl : d.length ≤ 1099511627776) :
    ∃ r, r.Perm d ∧ nS le (2 * bs) r ∧ jZ cmp ((d.length : Nat) : Int) d (bs : Int) = some (.inl (r, ((2 * bs : Nat) : Int))) := by
  obtain ⟨G1, G2, g1, g2, g3, g4, g5⟩ := aCV C (n1 := ((d.length : Nat) : Int)) hbs (by omega) d.length [] d (Nat.le_refl _) ho hB (by simp) (by simpa using hl)
  have hlen := g1.length_eq
  simp only [List.length_append] at hlen
  have w2 : IntKind.i64.wrap (2 * (bs : Int)) = ((2 * bs : Nat) : Int) := by rw [wr (by omega) (by omega)]; omega
  have w4 : IntKind.i64.wrap ((bs : Int) * 2) = ((2 * bs : Nat) : Int) := by rw [wr (by omega) (by omega)]; omega
  have hlt : decide ((bs : Int) < ((d.length : Nat) : Int)) = true := by simp; omega
  simp only [List.nil_append, List.length_nil, Nat.zero_add, Int.natCast_zero] at g5
  have w1 : IntKind.i64.wrap (((G1.length : Nat) : Int) + (bs : Int)) = ((G1.length + bs : Nat) : Int) := by rw [wr (by omega) (by omega)]; omega
  by_cases hg : bs < G2.length
  · obtain ⟨x, y, rfl, x1, sx, hy⟩ := g3.split hg
    simp only [List.length_append] at g2 hg hlen
    have sy : Srt le y := hy.srt (by omega)
    have og : Oks ok (G1 ++ (x ++ y)) := ho.perm g1
    obtain ⟨D, d1, d2, d3⟩ := aAq C (P := G1) (A := x) (B := y) (S := []) (d := G1 ++ (x ++ y)) (a := ((G1.length : Nat) : Int)) (m := ((G1.length + bs : Nat) : Int)) (b := ((d.length : Nat) : Int)) (by simp) (fun h => by rw [h] at x1; simp at x1; omega) (fun h => by rw [h] at hg; simp at hg; omega)
      (fun z hz => og z (by simp [hz])) (fun z hz => og z (by simp [hz])) sx sy rfl (by rw [x1]) (by congr 1; omega) (by simp only [List.length_append]; omega)
    refine ⟨G1 ++ D, ?_, ?_, ?_⟩
    · exact (d1.append_left G1).trans g1
    · exact g4 D (by rw [d1.length_eq]; simp only [List.length_append]; omega) d2
    · have hc : decide (((G1.length + bs : Nat) : Int) < ((d.length : Nat) : Int)) = true := by simp; omega
      simp only [jZ, hlt, cond_true, w2, wS, g5, Option.bind_some, wO, w1, hc, d3, zY, w4]
      simp
  · refine ⟨G1 ++ G2, g1, g4 G2 (by omega) (g3.srt (by omega)), ?_⟩
    have hc : decide (((G1.length + bs : Nat) : Int) < ((d.length : Nat) : Int)) = false := by simp; omega
    simp only [jZ, hlt, cond_true, w2, wS, g5, Option.bind_some, wO, w1, hc, cond_false, zY, w4]

theorem aAZ (C : Cmp ok le cmp) : ∀ (n : Nat) (d : List α) (bs : Nat), d.length - bs ≤ n → 0 < bs → Oks ok d → nS le bs d → d.length ≤ 1099511627776 →
    ∃ r, r.Perm d ∧ Srt le r ∧ lp (fun s : List α × Int => jZ cmp ((d.length : Nat) : Int) s.1 s.2) (d, (bs : Int)) = some r := by
  have stop : ∀ (d : List α) (bs : Nat), d.length ≤ bs → nS le bs d → ∃ r, r.Perm d ∧ Srt le r ∧ lp (fun s : List α × Int => jZ cmp ((d.length : Nat) : Int) s.1 s.2) (d, (bs : Int)) = some r := by
    intro d bs h hB
    refine ⟨d, List.Perm.refl _, hB.srt h, cQ ?_⟩
    show jZ cmp _ _ _ = _
    have : decide ((bs : Int) < ((d.length : Nat) : Int)) = false := by simp; omega
    simp only [jZ, this, cond_false]
  intro n
  induction n with
  | zero => intro d bs hn _ _ hB _; exact stop d bs (by omega) hB
  | succ n ih =>
    intro d bs hn hbs ho hB hl
    by_cases h : d.length ≤ bs
    · exact stop d bs h hB
    · obtain ⟨r, r1, r2, r3⟩ := ZJ C hbs (by omega) ho hB hl
      obtain ⟨r', e1, e2, e3⟩ := ih r (2 * bs) (by rw [r1.length_eq]; omega) (by omega) (ho.perm r1) r2 (by rw [r1.length_eq]; exact hl)
      rw [r1.length_eq] at e3
      refine ⟨r', e1.trans r1, e2, ?_⟩
      rw [eT (show (fun s : List α × Int => jZ cmp ((d.length : Nat) : Int) s.1 s.2) (d, (bs : Int)) = _ from r3)]
      exact e3

theorem PI (C : Cmp ok le cmp) {d : List α} (ho : Oks ok d) (hl : d.length ≤ 1099511627776) : ∃ r, r.Perm d ∧ Srt le r ∧ yA d ((d.length : Nat) : Int) cmp = some r := by
  obtain ⟨G1, G2, g1, g2, g3, g4⟩ := aCR C (n1 := ((d.length : Nat) : Int)) d.length [] d (Nat.le_refl _) ho (by simp) (by simpa using hl)
  have hlen := g1.length_eq
  simp only [List.length_append] at hlen
  have og := ho.perm g1
  obtain ⟨D, d1, d2, d3⟩ := aAU C (P := G1) (A := G2) (T := []) (a := ((G1.length : Nat) : Int)) (b := ((d.length : Nat) : Int)) rfl (by congr 1; omega) (fun z hz => og z (by simp [hz])) (by simp only [List.length_append, List.length_nil]; omega)
  have hp : (G1 ++ D).Perm d := (d1.append_left G1).trans g1
  obtain ⟨r, r1, r2, r3⟩ := aAZ C (G1 ++ D).length (G1 ++ D) 20 (by omega) (by omega) (ho.perm hp) (g3 D (by rw [d1.length_eq]; omega) d2) (by rw [hp.length_eq]; exact hl)
  refine ⟨r, r1.trans hp, r2, ?_⟩
  simp only [List.nil_append, List.length_nil, Nat.zero_add, Int.natCast_zero] at g4
  unfold yA zU
  have g4' : lp (fun s : List α × Int × Int => mO cmp ((d.length : Nat) : Int) 20 s.1 s.2.1 s.2.2) (d, (0 : Int), (20 : Int)) = some (G1 ++ G2, ((G1.length : Nat) : Int)) := g4
  rw [g4']
  simp only [Option.bind_some, zX]
  rw [show G1 ++ G2 = G1 ++ G2 ++ [] by simp, d3]
  simp only [Option.bind_some, zS, List.append_nil]
  rw [hp.length_eq] at r3
  have r3' : lp (fun s : List α × Int => jZ cmp ((d.length : Nat) : Int) s.1 s.2) (G1 ++ D, (20 : Int)) = some r := r3
  rw [r3']; rfl

end Go.Abs
namespace Go.Abs
open Go
def FW (n : Int) : Bool := decide (n ≤ 1048576) && decide (-1048576 ≤ n)

theorem WW (n : Int) : wN n = some (FW n) := rfl

def FD (last : Int) (j : aA) : Bool := decide (j.At ≤ last) || decide (1125899906842624 ≤ j.At) || decide (j.Net = 0) || !FW j.Net

def chk (last : Int) : List aA → Bool
  | [] => true
  | j :: r => !FD last j && chk j.At r

def dO (f : List aA) : Bool := decide (f.length ≤ 1024) && chk (-2) f

theorem SZ {f : List aA} {i : Nat} {a : aA} {last : Int} (ha : f[i]? = some a) (hl : f.length < 4611686018427387904) :
    mP f (f.length : Nat) last i = some (if FD last a then .inr (.inr false) else .inl (a.At, ((i + 1 : Nat) : Int))) := by
  obtain ⟨d1, d2, d3, d4⟩ := idx ha hl
  simp only [mP, d1, cond_true, bF d2, d3, d4, WW]
  unfold FD
  cases h : (decide (a.At ≤ last) || decide (1125899906842624 ≤ a.At) || decide (a.Net = 0)) <;> cases h2 : FW a.Net <;> simp [cV]

theorem SM : ∀ (f : List aA) (last : Int), qH (fun last (j : aA) => some (if FD last j then .inr (.inr false) else .inl j.At)) (fun _ => (.inl () : Unit ⊕ Bool)) last f = some (if chk last f then .inl () else .inr false)
  | [], last => by simp [qH, chk]
  | j :: r, last => by
    cases h : FD last j
    · rw [MZ (s' := j.At) (by simp [h])]
      rw [SM r j.At]
      simp [chk, h]
    · rw [LZ (x := .inr false) (by simp [h])]
      simp [chk, h]

theorem IK (f : List aA) : oN f = some (dO f) := by
  unfold oN dO
  by_cases hl : f.length ≤ 1024
  · have h1 : decide ((1024 : Int) < ((f.length : Nat) : Int)) = false := by simp; omega
    rw [h1, cond_false]
    unfold zT
    have key := aBt (l := f) (body := fun s : Int × Int => mP f (f.length : Nat) s.1 s.2) (fun last i => (last, i)) _ _
      (fun i a s ha => by
        constructor
        · intro s' hs
          show mP f (f.length : Nat) s i = _
          rw [SZ ha (by omega)]
          split at hs <;> simp_all
        · intro x hs
          show mP f (f.length : Nat) s i = _
          rw [SZ ha (by omega)]
          split at hs <;> simp_all)
      (fun s => by show mP f (f.length : Nat) s (f.length : Nat) = _; simp only [mP, jO, cond_false]) (SM f (-2))
    rw [key]
    cases h : chk (-2) f <;> simp [wI, hl]
  · have h1 : decide ((1024 : Int) < ((f.length : Nat) : Int)) = true := by simp; omega
    rw [h1, cond_true]
    simp [hl]

theorem pK {last : Int} {j : aA} : FD last j = false ↔ last < j.At ∧ j.At < 1125899906842624 ∧ j.Net ≠ 0 ∧ j.Net ≤ 1048576 ∧ -1048576 ≤ j.Net := by
  simp [FD, FW]
  omega

def kO (last : Int) : List aA → Prop
  | [] => True
  | j :: r => (last < j.At ∧ j.At < 1125899906842624 ∧ j.Net ≠ 0 ∧ j.Net ≤ 1048576 ∧ -1048576 ≤ j.Net) ∧ kO j.At r

theorem XF : ∀ {f : List aA} {last : Int}, chk last f = true ↔ kO last f
  | [], last => by simp [chk, kO]
  | j :: r, last => by simp [chk, kO, pK, XF]

theorem dV {f : List aA} : dO f = true ↔ f.length ≤ 1024 ∧ kO (-2) f := by simp [dO, XF]

theorem kO.above : ∀ {f : List aA} {last : Int}, kO last f → ∀ j ∈ f, last < j.At ∧ j.At < 1125899906842624 ∧ j.Net ≠ 0 ∧ j.Net ≤ 1048576 ∧ -1048576 ≤ j.Net
  | [], _, _, j, hj => by simp at hj
  | a :: r, last, h, j, hj => by
    rcases List.mem_cons.1 hj with rfl | hj
    · exact h.1
    · have := h.2.above j hj
      have h1 := h.1.1
      exact ⟨by omega, this.2⟩

def val (f : List aA) (t : Int) : Int := (f.map fun j => if j.At ≤ t then j.Net else 0).sum

theorem nE (t : Int) : val [] t = 0 := rfl

theorem cA (j : aA) (r : List aA) (t : Int) : val (j :: r) t = (if j.At ≤ t then j.Net else 0) + val r t := by simp [val]

theorem oJ (f g : List aA) (t : Int) : val (f ++ g) t = val f t + val g t := by simp [val]

theorem PT : ∀ {f : List aA} {b : Int} (t : Int), 0 ≤ b → (∀ j ∈ f, j.Net ≤ b ∧ -b ≤ j.Net) → val f t ≤ b * f.length ∧ -(b * f.length) ≤ val f t
  | [], b, t, _, _ => by simp [val]
  | j :: r, b, t, hb, h => by
    obtain ⟨h1, h2⟩ := PT t hb (fun k hk => h k (List.mem_cons_of_mem _ hk))
    have h3 := h j (List.mem_cons_self ..)
    rw [cA]
    simp only [List.length_cons, Int.natCast_add, Int.natCast_one, Int.mul_add, Int.mul_one]
    split <;> omega

theorem uN {f : List aA} {t : Int} (h : ∀ j ∈ f, t < j.At) : val f t = 0 := by
  induction f with
  | nil => rfl
  | cons j r ih =>
    rw [cA, ih (fun k hk => h k (List.mem_cons_of_mem _ hk))]
    have := h j (List.mem_cons_self ..)
    rw [if_neg (by omega)]; rfl

theorem aCs (f : List aA) : rL f = some (if dO f then (f, 0) else ([], 7)) := by
  unfold rL
  rw [IK]
  cases h : dO f <;> simp

end Go.Abs
namespace Go.Abs
open Go
section both
variable {op : Int → Int → Option Int} {f g r : List aA} {out : List aA} {a b was t : Int} {j : aA}
end both
def emit (p v was : Int) : List aA := if v = was then [] else [⟨p, v - was⟩]

def AB (was : Int) : List (Int × Int) → List aA
  | [] => []
  | x :: r => emit x.1 x.2 was ++ AB x.2 r

def merge (f g : List aA) (a b : Int) : List (Int × Int × Int) :=
  match f, g with
  | [], [] => []
  | j :: f, [] => (j.At, a + j.Net, b) :: merge f [] (a + j.Net) b
  | [], k :: g => (k.At, a, b + k.Net) :: merge [] g a (b + k.Net)
  | j :: f, k :: g =>
    if j.At < k.At then (j.At, a + j.Net, b) :: merge f (k :: g) (a + j.Net) b
    else if k.At < j.At then (k.At, a, b + k.Net) :: merge (j :: f) g a (b + k.Net)
    else (j.At, a + j.Net, b + k.Net) :: merge f g (a + j.Net) (b + k.Net)

termination_by f.length + g.length
end Go.Abs
namespace Go.Abs
open Go
def comb (OP : Int → Int → Int) (f g : List aA) : List aA := AB 0 ((merge f g 0 0).map fun x => (x.1, OP x.2.1 x.2.2))

def told (f : List aA) : List aA × Int := if dO f then (f, 0) else ([], 7)

theorem SA (f : List aA) : rL f = some (told f) := aCs f

def two (OP : Int → Int → Int) (f g : List aA) : List aA × Int := if dO f && dO g then told (comb OP f g) else ([], 2)

end Go.Abs
namespace Go.Abs
open Go
theorem aBa (p v was t : Int) : val (emit p v was) t = if p ≤ t then v - was else 0 := by
  unfold emit
  by_cases h : v = was
  · rw [if_pos h, nE, h]; split <;> omega
  · rw [if_neg h, cA, nE]; simp

theorem kO.uA {l t : Int} {f : List aA} (h : kO l f) (ht : t ≤ l) : val f t = 0 := uN fun j hj => by have := (h.above j hj).1; omega

theorem RO {f : List aA} (hf : dO f = true) (t : Int) : val f t ≤ 1073741824 ∧ -1073741824 ≤ val f t := by
  obtain ⟨h1, h2⟩ := dV.1 hf
  have := PT t (b := 1048576) (by omega) (fun j hj => by have := h2.above j hj; omega) (f := f)
  omega

end Go.Abs
namespace Go.Abs
open Go
def jA (f : List aA) : Int := (f.map aA.Net).sum

theorem HN (j : aA) (f : List aA) : jA (j :: f) = j.Net + jA f := by simp [jA]

def cN (t : Int) : List aA → List aA
  | [] => []
  | j :: r => if t ≤ j.At then [] else j :: cN t r

def aft (t : Int) : List aA → List aA
  | [] => []
  | j :: r => if t ≤ j.At then j :: r else aft t r

theorem xV (t : Int) : ∀ f : List aA, cN t f ++ aft t f = f
  | [] => rfl
  | j :: r => by
    unfold cN aft
    split
    · rfl
    · simp [xV t r]

theorem vU {t : Int} : ∀ {f : List aA}, ∀ j ∈ cN t f, j.At < t
  | [], j, h => by simp [cN] at h
  | k :: r, j, h => by
    unfold cN at h
    split at h
    · simp at h
    · rcases List.mem_cons.1 h with rfl | h
      · omega
      · exact vU j h

theorem EH {t l : Int} : ∀ {f : List aA}, kO l f → ∀ j ∈ aft t f, t ≤ j.At
  | [], _, j, h => by simp [aft] at h
  | k :: r, hr, j, h => by
    unfold aft at h
    split at h
    · rcases List.mem_cons.1 h with rfl | h
      · assumption
      · have := (hr.2.above j h).1; omega
    · exact EH hr.2 j h

theorem PD {f : List aA} {t : Int} (h : ∀ j ∈ f, j.At ≤ t) : val f t = jA f := by
  induction f with
  | nil => rfl
  | cons j r ih => rw [cA, HN, if_pos (h j (List.mem_cons_self ..)), ih fun k hk => h k (List.mem_cons_of_mem _ hk)]

theorem GI (t : Int) : ∀ f : List aA, (cN t f).length ≤ f.length
  | [] => by simp [cN]
  | j :: r => by
    unfold cN
    split
    · simp
    · simpa using GI t r

theorem VB {l t p : Int} {f : List aA} (hf : kO l f) (hp : p < t) : val f p = val (cN t f) p := by
  conv => lhs; rw [← xV t f]
  rw [oJ, uN (f := aft t f) (fun j hj => by have := EH hf j hj; omega)]
  omega

theorem IP {l t : Int} {f : List aA} (hf : kO l f) : jA (cN t f) = val f (t - 1) := by
  rw [VB hf (p := t - 1) (t := t) (by omega), PD (fun j hj => by have := vU j hj; omega)]

theorem ZD {t : Int} (f : List aA) : ∀ (l v : Int) (out : List aA), kO l f → v ≤ 1048576 * (2048 - f.length) → -(1048576 * (2048 - f.length)) ≤ v → f.length ≤ 1024 →
    qH (fun (s : List aA × Int) (j : aA) => some (if t ≤ j.At then .inr s else .inl (s.1 ++ [j], IntKind.i64.wrap (s.2 + j.Net)))) (fun s => s) (out, v) f = some (out ++ cN t f, v + jA (cN t f)) := by
  induction f with
  | nil => intro l v out _ _ _ _; simp [qH, cN, jA]
  | cons j r ih =>
    intro l v out h h1 h2 hl
    simp only [List.length_cons] at h1 h2 hl
    have hj1 := h.1
    by_cases hj : t ≤ j.At
    · rw [LZ (x := (out, v)) (by simp [hj])]
      simp [cN, hj, jA]
    · have hw : IntKind.i64.wrap (v + j.Net) = v + j.Net := gX (by omega) (by omega)
      rw [MZ (s' := (out ++ [j], v + j.Net)) (by simp [hj, hw])]
      rw [ih j.At (v + j.Net) (out ++ [j]) h.2 (by omega) (by omega) (by omega)]
      have : cN t (j :: r) = j :: cN t r := by simp [cN, hj]
      rw [this, HN]
      simp [Int.add_assoc]

def mF (t : Int) (f : List aA) : List aA := cN t f ++ (if jA (cN t f) = 0 then [] else [⟨t, -jA (cN t f)⟩])

def ahead (f : List aA) (t : Int) : List aA × Int :=
  if dO f then (if 1125899906842624 ≤ t then (f, 0) else told (mF t f)) else ([], 2)

theorem aBy {f : List aA} (hl : f.length ≤ 1024) : cO f = some f := by
  unfold cO
  exact bF ⟨by omega, by omega⟩

theorem ZC {f : List aA} (hf : dO f = true) (t : Int) : jA (cN t f) ≤ 1073741824 ∧ -1073741824 ≤ jA (cN t f) := by
  rw [IP (dV.1 hf).2]
  exact RO hf _

theorem aBu (f : List aA) (t : Int) : vJ f t = some (ahead f t) := by
  unfold vJ ahead
  rw [IK]
  simp only [Option.bind_some]
  cases h : dO f
  · simp
  · obtain ⟨hl, hr⟩ := dV.1 h
    simp only [Bool.not_true, cond_false, if_true]
    by_cases ht : 1125899906842624 ≤ t
    · simp [ht, aBy hl]
    · rw [decide_eq_false ht, cond_false, if_neg ht]
      unfold xO
      have key := aAe (l := f) (body := fun s : List aA × Int × Int => jY t f (f.length : Nat) s.1 s.2.1 s.2.2) (fun (s : List aA × Int) i => (s.1, s.2, i)) _ _ (fun i s => s.1.length = i)
        (fun i a s hi ha => by
          obtain ⟨d1, d2, d3, d4⟩ := idx ha (by omega)
          have hlt : i < f.length := (List.getElem?_eq_some_iff.1 ha).1
          have hb : jY t f (f.length : Nat) s.1 s.2 i = some (if t ≤ a.At then .inr s else .inl (s.1 ++ [a], IntKind.i64.wrap (s.2 + a.Net), ((i + 1 : Nat) : Int))) := by
            simp only [jY, d1, cond_true, bF d2, d3, d4]
            rw [bF (by simp only [List.length_cons, List.length_nil]; omega)]
            by_cases h : t ≤ a.At <;> simp [h]
          by_cases hh : t ≤ a.At
          · refine ⟨fun s' hs => by simp [hh] at hs, fun x hs => ?_⟩
            simp [hh] at hs; subst hs
            show jY t f (f.length : Nat) s.1 s.2 i = _
            rw [hb, if_pos hh]
          · refine ⟨fun s' hs => ?_, fun x hs => by simp [hh] at hs⟩
            simp [hh] at hs; subst hs
            refine ⟨by simp [hi], ?_⟩
            show jY t f (f.length : Nat) s.1 s.2 i = _
            rw [hb, if_neg hh])
        (fun s _ => by show jY t f (f.length : Nat) s.1 s.2 (f.length : Nat) = _; simp only [jY, jO, cond_false]) (s := ([], 0)) rfl (ZD (t := t) f (-2) 0 [] hr (by omega) (by omega) hl)
      rw [key]
      have hb := ZC h t
      have hlen := GI t f
      have hw : IntKind.i64.wrap (0 - jA (cN t f)) = -jA (cN t f) := by rw [gX (by omega) (by omega)]; omega
      simp only [Option.bind_some, List.nil_append, Int.zero_add, qX, tC, mF, hw, SA]
      by_cases hv : jA (cN t f) = 0
      · simp [hv]
      · rw [bF (by simp only [List.length_cons, List.length_nil]; omega)]
        simp [hv]

end Go.Abs
namespace Go.Abs
open Go
def aDn (t : Int) (f : List aA) : List aA := (if jA (cN t f) = 0 then [] else [⟨-1, jA (cN t f)⟩]) ++ aft t f

def rest (f : List aA) (t : Int) : List aA × Int :=
  if dO f then (if 1125899906842624 ≤ t then ([], 0) else if t ≤ -1 then (f, 0) else told (aDn t f)) else ([], 2)

end Go.Abs
namespace Go.Abs
open Go
def Up (last : Int) : List aA → Prop
  | [] => True
  | j :: r => (last < j.At ∧ j.At < 1125899906842624 ∧ j.Net ≠ 0) ∧ Up j.At r

theorem Up.above : ∀ {f : List aA} {last : Int}, Up last f → ∀ j ∈ f, last < j.At ∧ j.At < 1125899906842624 ∧ j.Net ≠ 0
  | [], _, _, j, hj => by simp at hj
  | a :: r, last, h, j, hj => by
    rcases List.mem_cons.1 hj with rfl | hj
    · exact h.1
    · have := h.2.above j hj
      have h1 := h.1.1
      exact ⟨by omega, this.2⟩

theorem Up.uA {l t : Int} {f : List aA} (h : Up l f) (ht : t ≤ l) : val f t = 0 := uN fun j hj => by have := (h.above j hj).1; omega

theorem Up.weaken {a b : Int} {f : List aA} (h : Up b f) (hab : a ≤ b) : Up a f := by
  cases f with
  | nil => trivial
  | cons j r => exact ⟨⟨by have := h.1.1; omega, h.1.2⟩, h.2⟩

theorem kO.up : ∀ {f : List aA} {last : Int}, kO last f → Up last f
  | [], _, _ => trivial
  | _ :: _, _, h => ⟨⟨h.1.1, h.1.2.1, h.1.2.2.1⟩, h.2.up⟩

theorem Up.ext : ∀ {f g : List aA} {last : Int}, Up last f → Up last g → (∀ t, last < t → t < 1125899906842624 → val f t = val g t) → f = g
  | [], [], _, _, _, _ => rfl
  | j :: r, [], last, hf, _, h => by
    have := h j.At hf.1.1 hf.1.2.1
    rw [cA, if_pos (Int.le_refl _), hf.2.uA (Int.le_refl _), nE] at this
    exact absurd (by omega) hf.1.2.2
  | [], k :: s, last, _, hg, h => by
    have := h k.At hg.1.1 hg.1.2.1
    rw [cA, if_pos (Int.le_refl _), hg.2.uA (Int.le_refl _), nE] at this
    exact absurd (by omega) hg.1.2.2
  | j :: r, k :: s, last, hf, hg, h => by
    have h1 := h j.At hf.1.1 hf.1.2.1
    have h2 := h k.At hg.1.1 hg.1.2.1
    rw [cA, if_pos (Int.le_refl _), hf.2.uA (Int.le_refl _), cA] at h1
    rw [cA, cA k, if_pos (Int.le_refl _), hg.2.uA (Int.le_refl _)] at h2
    have n1 := hf.1.2.2
    have n2 := hg.1.2.2
    have he : j.At = k.At := by
      rcases Int.lt_trichotomy j.At k.At with h3 | h3 | h3
      · rw [if_neg (by omega), hg.2.uA (by omega)] at h1; omega
      · exact h3
      · rw [if_neg (by omega), hf.2.uA (by omega)] at h2; omega
    rw [if_pos (by omega), hg.2.uA (by omega)] at h1
    have hj : j = k := by
      obtain ⟨a, b⟩ := j; obtain ⟨c, d⟩ := k
      simp only at he h1
      simp only [Int.add_zero] at h1
      rw [he, h1]
    subst hj
    rw [hf.2.ext hg.2 (fun t ht ht' => by
      have := h t (by have := hf.1.1; omega) ht'
      rw [cA, cA] at this; omega)]

def Inc (last : Int) : List Int → Prop
  | [] => True
  | p :: r => (last < p ∧ p < 1125899906842624) ∧ Inc p r

theorem Inc.above : ∀ {ps : List Int} {last : Int}, Inc last ps → ∀ p ∈ ps, last < p ∧ p < 1125899906842624
  | [], _, _, j, hj => by simp at hj
  | a :: r, last, h, j, hj => by
    rcases List.mem_cons.1 hj with rfl | hj
    · exact h.1
    · have := h.2.above j hj
      have h1 := h.1.1
      exact ⟨by omega, this.2⟩

theorem GV : ∀ {l : List (Int × Int)} {last was : Int}, Inc last (l.map Prod.fst) → Up last (AB was l)
  | [], _, _, _ => trivial
  | x :: r, last, was, h => by
    simp only [AB]
    have ih : Up x.1 (AB x.2 r) := GV h.2
    have h1 : last < x.1 ∧ x.1 < 1125899906842624 := h.1
    unfold emit
    split
    · exact ih.weaken (by omega)
    · exact ⟨⟨h1.1, h1.2, by simp only; omega⟩, ih⟩

theorem HJ {F : Int → Int} : ∀ {ps : List Int} {last : Int}, Inc last ps → (∀ s t, last ≤ s → s ≤ t → t < 1125899906842624 → (∀ p ∈ ps, ¬ (s < p ∧ p ≤ t)) → F s = F t) →
    ∀ t, last ≤ t → t < 1125899906842624 → val (AB (F last) (ps.map fun p => (p, F p))) t = F t - F last
  | [], last, _, hF, t, h1, h2 => by
    have := hF last t (Int.le_refl _) h1 h2 (by simp)
    simp [AB, val, this]
  | p :: r, last, hi, hF, t, h1, h2 => by
    simp only [List.map_cons, AB]
    rw [oJ, aBa]
    by_cases hp : p ≤ t
    · rw [if_pos hp, HJ (F := F) hi.2 (fun s t' hs hst ht' hn => hF s t' (by have := hi.1.1; omega) hst ht' (fun q hq => by
        rcases List.mem_cons.1 hq with rfl | hq
        · omega
        · exact hn q hq)) t hp h2]
      omega
    · have := hF last t (Int.le_refl _) h1 h2 (fun q hq => by
        rcases List.mem_cons.1 hq with rfl | hq
        · omega
        · have := (hi.2.above q hq).1; omega)
      rw [if_neg hp, Up.uA (GV (last := p) (by rw [List.map_map]; simpa [Function.comp_def] using hi.2)) (by omega)]
      omega

theorem kO.restrict {l m : Int} {k : aA} {g : List aA} (h : kO l (k :: g)) (hm : m < k.At) : kO m (k :: g) := ⟨⟨hm, h.1.2⟩, h.2⟩

theorem aCX {f : List aA} (h : dO f = true) : Up (-2) f := (dV.1 h).2.up

theorem aBk {F : Int → Int} (h2 : F (-2) = 0) {ps : List Int} (hi : Inc (-2) ps) (hF : ∀ s t, -2 ≤ s → s ≤ t → t < 1125899906842624 → (∀ p ∈ ps, ¬ (s < p ∧ p ≤ t)) → F s = F t) {h : List aA} (hh : Up (-2) h) (hv : ∀ t, -2 < t → t < 1125899906842624 → val h t = F t) :
    AB 0 (ps.map fun p => (p, F p)) = h := by
  refine (GV (by rw [List.map_map]; simpa [Function.comp_def] using hi)).ext hh fun t h3 h4 => ?_
  have := HJ hi hF t (by omega) h4
  rw [h2] at this
  rw [this, hv t h3 h4]; omega

end Go.Abs
namespace Go.Abs
open Go
theorem GU {f : List aA} (h : dO f = true) : ∀ j ∈ f, j.Net ≤ 1048576 ∧ -1048576 ≤ j.Net := fun j hj => by have := (dV.1 h).2.above j hj; omega

def CY (t : Int) : List Int → List Int
  | [] => [t]
  | p :: r => if p = t then p :: r else if t < p then t :: p :: r else p :: CY t r

theorem QV {t x : Int} : ∀ {ps : List Int}, x ∈ CY t ps ↔ x = t ∨ x ∈ ps
  | [] => by simp [CY]
  | p :: r => by
    unfold CY
    split
    · rename_i h; subst h; simp
    · split
      · simp
      · simp only [List.mem_cons, QV (ps := r)]; constructor <;> (intro h; rcases h with h | h | h <;> simp [h])

theorem PL {t : Int} : ∀ {ps : List Int} {last : Int}, Inc last ps → last < t → t < 1125899906842624 → Inc last (CY t ps)
  | [], last, _, h1, h2 => ⟨⟨h1, h2⟩, trivial⟩
  | p :: r, last, h, h1, h2 => by
    unfold CY
    split
    · exact h
    · split
      · rename_i h3 h4
        exact ⟨⟨h1, h2⟩, ⟨h4, h.1.2⟩, h.2⟩
      · exact ⟨h.1, PL h.2 (by omega) h2⟩

def OF (ps : List Int) (f : List aA) : List Int := f.foldl (fun ps j => CY j.At ps) ps

theorem LB {x : Int} : ∀ {f : List aA} {ps : List Int}, x ∈ OF ps f ↔ x ∈ ps ∨ ∃ j ∈ f, j.At = x
  | [], ps => by simp [OF]
  | k :: r, ps => by
    have := LB (x := x) (f := r) (ps := CY k.At ps)
    unfold OF at this ⊢
    rw [List.foldl_cons, this, QV]
    constructor
    · rintro ((h | h) | ⟨j, h, h'⟩)
      · exact Or.inr ⟨k, List.mem_cons_self .., h.symm⟩
      · exact Or.inl h
      · exact Or.inr ⟨j, List.mem_cons_of_mem _ h, h'⟩
    · rintro (h | ⟨j, h, h'⟩)
      · exact Or.inl (Or.inr h)
      · rcases List.mem_cons.1 h with rfl | h
        · exact Or.inl (Or.inl h'.symm)
        · exact Or.inr ⟨j, h, h'⟩

theorem US : ∀ {f : List aA} {ps : List Int} {last : Int}, Inc last ps → (∀ j ∈ f, last < j.At ∧ j.At < 1125899906842624) → Inc last (OF ps f)
  | [], _, _, h, _ => h
  | k :: r, ps, last, h, hf => by
    have hk := hf k (List.mem_cons_self ..)
    exact US (f := r) (PL h hk.1 hk.2) fun j hj => hf j (List.mem_cons_of_mem _ hj)

end Go.Abs
namespace Go.Abs
open Go
def mn (a b : Int) : Int := if b < a then b else a

def parts (v : Int) : List aA → List Int
  | [] => []
  | j :: r => (v + j.Net) :: parts (v + j.Net) r

def ES (f : List aA) : Int := (f.map fun j => val f j.At).foldl mn (val f (-1))

theorem parts_eq : ∀ {f : List aA} {l v : Int}, kO l f → parts v f = f.map fun j => v + val f j.At
  | [], _, _, _ => rfl
  | j :: r, l, v, h => by
    simp only [parts, List.map_cons]
    rw [parts_eq h.2, cA, if_pos (Int.le_refl _), h.2.uA (Int.le_refl _), Int.add_zero]
    congr 1
    apply List.map_congr_left
    intro k hk
    have := (h.2.above k hk).1
    rw [cA, if_pos (by omega)]; omega

theorem aAt {j : aA} {r : List aA} (h : kO (-2) (j :: r)) : val (j :: r) (-1) = if j.At = -1 then j.Net else 0 := by
  have := h.1.1
  by_cases e : j.At = -1
  · rw [if_pos e, cA, if_pos (by omega), h.2.uA (by omega)]; omega
  · rw [if_neg e, uN]
    intro k hk
    rcases List.mem_cons.1 hk with rfl | hk
    · omega
    · have := (h.2.above k hk).1; omega

theorem ME {f : List aA} (hf : dO f = true) (m : Int) (hm : -1125899906842624 ≤ m ∧ m ≤ 1125899906842624) : tQ 0 m f (f.length : Nat) 0 = some ((f.map fun j => val f j.At).foldl mn m) := by
  obtain ⟨hl, hr⟩ := dV.1 hf
  unfold tQ
  rw [xY (l := f) (body := fun s : Int × Int × Int => nN f (f.length : Nat) s.1 s.2.1 s.2.2) (fun (s : Int × Int) i => (s.1, s.2, i)) (fun s r => (parts s.1 r).foldl mn s.2)
    (fun s r => (∀ j ∈ r, j.Net ≤ 1048576 ∧ -1048576 ≤ j.Net) ∧ r.length ≤ 1024 ∧ s.1 ≤ 1048576 * (1024 - r.length) ∧ -(1048576 * (1024 - r.length)) ≤ s.1) (0, m) ?_ ?_ ?_]
  · simp only [Option.bind_some, tF, parts_eq hr, Int.zero_add]
  · rintro i a r ⟨v, m⟩ ha ⟨h1, h2, h3, h4⟩
    obtain ⟨d1, d2, d3, d4⟩ := idx ha (by omega)
    have hj := h1 a (List.mem_cons_self ..)
    simp only [List.length_cons] at h2 h3 h4
    have hw : IntKind.i64.wrap (v + a.Net) = v + a.Net := gX (by omega) (by omega)
    left
    refine ⟨(v + a.Net, mn m (v + a.Net)), ?_, ⟨fun j hj => h1 j (List.mem_cons_of_mem _ hj), by omega, by simp only; omega, by simp only; omega⟩, rfl⟩
    show nN f (f.length : Nat) v m i = _
    simp only [nN, d1, cond_true, bF d2, d3, d4, hw, mn]
  · rintro ⟨v, m⟩ _
    show nN f (f.length : Nat) v m (f.length : Nat) = _
    simp only [nN, jO, cond_false, parts, List.foldl_nil]
  · exact ⟨GU hf, hl, by simp only; omega, by simp only; omega⟩

theorem aBn (f : List aA) : vL f = some (if dO f then ES f else 0) := by
  unfold vL
  rw [IK]
  cases h : dO f
  · simp
  · cases f with
    | nil => simp [ES, val]
    | cons j r =>
      obtain ⟨hl, hr⟩ := dV.1 h
      have hne : decide (((List.length (j :: r) : Nat) : Int) = 0) = false := by simp; omega
      simp only [Option.bind_some, Bool.not_true, Bool.false_or, hne, cond_false, bF aDx, aCY, if_true]
      have hj := hr.1
      unfold ES
      rw [aAt hr]
      by_cases e : j.At = -1
      · simp only [e, decide_true, cond_true, if_true, qW]
        exact ME h j.Net (by omega)
      · simp only [e, decide_false, cond_false, if_false, qW]
        exact ME h 0 (by omega)

theorem DL {s t : Int} (hst : s ≤ t) : ∀ {f : List aA}, (∀ j ∈ f, ¬ (s < j.At ∧ j.At ≤ t)) → val f s = val f t
  | [], _ => rfl
  | j :: r, h => by
    have hj := h j (List.mem_cons_self ..)
    rw [cA, cA, DL hst (fun k hk => h k (List.mem_cons_of_mem _ hk))]
    by_cases e : j.At ≤ s
    · rw [if_pos e, if_pos (by omega)]
    · rw [if_neg e, if_neg (by omega)]

theorem YN {f : List aA} (h : dO f = true) : ∀ j ∈ f, -2 < j.At ∧ j.At < 1125899906842624 := fun j hj => by have := (dV.1 h).2.above j hj; omega

theorem aCH : dO [] = true := by decide

theorem XX {f : List aA} {t : Int} (hf : dO f = true) (p : Int) : val (mF t f) p = if p < t then val f p else 0 := by
  unfold mF
  by_cases hp : p < t
  · rw [if_pos hp, VB (dV.1 hf).2 hp, oJ]
    split
    · simp [val]
    · rw [cA, nE]; simp; omega
  · rw [if_neg hp, oJ, PD (fun j hj => by have := vU j hj; omega)]
    split
    · rename_i h0; rw [h0]; simp [val]
    · rw [cA, nE, if_pos (show (⟨t, -jA (cN t f)⟩ : aA).At ≤ p by show t ≤ p; omega)]; simp; omega

end Go.Abs
namespace Go.Abs
open Go
theorem w1 : IntKind.i64.wrap (0 + 1) = 1 := by rw [gX] <;> omega

theorem w2 : IntKind.i64.wrap (1 + 1) = 2 := by rw [gX] <;> omega

theorem w3 : IntKind.i64.wrap (1 - 1) = 0 := by rw [gX] <;> omega

theorem v0 : IntKind.i64.wrap 0 = 0 := by rw [gX] <;> omega

theorem v1 : IntKind.i64.wrap 1 = 1 := by rw [gX] <;> omega

theorem v2 : IntKind.i64.wrap 2 = 2 := by rw [gX] <;> omega

theorem v3 : IntKind.i64.wrap (-1) = -1 := by rw [gX] <;> omega

end Go.Abs
namespace Go.Abs
open Go
theorem TG (f : List aA) : (told f).1.length ≤ 1024 := by
  unfold told
  cases h : dO f
  · simp
  · simpa using (dV.1 h).1

theorem aAA (f : List aA) (t : Int) : (ahead f t).1.length ≤ 1024 := by
  unfold ahead
  split
  · split
    · exact (dV.1 (by assumption)).1
    · exact TG _
  · simp

end Go.Abs
namespace Go.Abs
theorem aBz : @dM = @oH aA _ := rfl

theorem aAz : @dX = @eD aA _ := rfl

theorem XM (cmp) : ∀ k, @gS cmp k = @eG aA _ cmp k
  | 0 => rfl
  | k + 1 => by
    show dX cmp _ = eD cmp _
    rw [XM cmp k, aAz]

theorem aBP : @eO = @pP aA _ := by
  funext d a m b cmp
  unfold eO pP
  simp only [XM]

theorem WI : @fJ = @yA aA _ := by
  funext d n cmp
  unfold fJ yA iM zU
  unfold hM mO fB zX
  unfold iR zS iB jZ
  unfold iC wS iK mQ
  unfold eZ wO
  rw [aBP, aBz]
  rfl

end Go.Abs
namespace Go.Abs
open Go
variable {α : Type} [Inhabited α]
noncomputable def pU (f1 : α → Option Bool) (s0 : (List α)) (t7 : Int) (t8 : Int) : Option ((Int) ⊕ (Unit ⊕ Int)) :=
  cond (decide (t8 < t7))
  (bK (0 ≤ t8 ∧ t8 < ((List.length s0 : Nat) : Int)) <|
  (f1 (List.getD s0 (Int.toNat t8) default)).bind fun x2 =>
  cond x2
  (some (.inr (.inr t8)))
  (some (.inl (IntKind.i64.wrap (t8 + (1 : Int))))))
  (some (.inr (.inl ())))

theorem CJ {l : List α} {f : α → Option Bool} {g : α → Bool} (hl : l.length ≤ 1099511627776) (hf : ∀ x ∈ l, f x = some (g x)) : ∀ (r : List α) (k : Nat), l.drop k = r → k ≤ l.length →
    ∃ x, lp (fun s => pU f l (l.length : Nat) s) (k : Int) = some x ∧ ((x = .inl () ∧ r.any g = false) ∨ (∃ i : Nat, x = .inr (i : Int) ∧ k ≤ i ∧ i < l.length ∧ r.any g = true ∧ g (l.getD i default) = true ∧ ∀ j, k ≤ j → j < i → g (l.getD j default) = false))
  | [], k, hd, hk => by
    have : k = l.length := by
      have := congrArg List.length hd
      simp only [List.length_drop, List.length_nil] at this; omega
    subst this
    refine ⟨.inl (), cQ ?_, Or.inl ⟨rfl, rfl⟩⟩
    show pU f l _ _ = _
    simp only [pU, jO, cond_false]
  | a :: r, k, hd, hk => by
    obtain ⟨h1, h2⟩ := drop_cons hd
    have hlt : k < l.length := (List.getElem?_eq_some_iff.1 h1).1
    obtain ⟨d1, d2, d3, d4⟩ := idx h1 (by omega)
    have hga : l.getD k default = a := by rw [Int.toNat_natCast] at d3; exact d3
    have hb : (fun s => pU f l (l.length : Nat) s) (k : Int) = some (if g a then .inr (.inr (k : Int)) else .inl ((k + 1 : Nat) : Int)) := by
      show pU f l _ _ = _
      simp only [pU, d1, cond_true, bF d2, d3, d4, hf a (List.mem_of_getElem? h1), Option.bind_some]
      cases g a <;> simp
    cases hg : g a
    · rw [hg] at hb
      obtain ⟨x, e, hx⟩ := CJ hl hf r (k + 1) h2 (by omega)
      refine ⟨x, by rw [eT hb]; exact e, ?_⟩
      rcases hx with ⟨rfl, h⟩ | ⟨i, rfl, h3, h4, h5, h6, h7⟩
      · exact Or.inl ⟨rfl, by simp [hg, h]⟩
      · refine Or.inr ⟨i, rfl, by omega, h4, by simp [h5], h6, fun j hj hj' => ?_⟩
        by_cases e : j = k
        · subst e; rw [hga, hg]
        · exact h7 j (by omega) hj'
    · rw [hg] at hb
      exact ⟨.inr (k : Int), cQ hb, Or.inr ⟨k, rfl, Nat.le_refl _, hlt, by simp [hg], by rw [hga, hg], fun j h h' => by omega⟩⟩

end Go.Abs
namespace Go.Abs
open Go
theorem HM {l : List aA} {f : aA → Option Bool} {g : aA → Bool} (hl : l.length ≤ 1099511627776) (hf : ∀ x ∈ l, f x = some (g x)) : cU l f = some (l.any g) := by
  unfold cU fS fN
  obtain ⟨x, e, hx⟩ := CJ hl hf l 0 rfl (Nat.zero_le _)
  have e' : lp (fun s => fO f l (l.length : Nat) s) 0 = some x := e
  rw [e']
  rcases hx with ⟨rfl, h⟩ | ⟨i, rfl, _, _, h, _⟩
  · simp [dQ, h]
  · simp [h]

def tG (j : aA) : Bool := !FW j.Net

def zK (j : aA) : Bool := decide (j.At < -1) || decide (1125899906842624 < j.At)

def xD (l : List aA) : List aA := AB 0 ((OF [] (l.filter fun j => decide (j.At < 1125899906842624))).map fun p => (p, val l p))

def jP (l : List aA) : List aA × Int := if l.any tG then ([], 2) else if l.any zK then ([], 13) else told (xD l)

def AZ (p n : Int) : List aA := if n ≠ 0 ∧ p < 1125899906842624 then [⟨p, n⟩] else []

def wE (p n : Int) : List aA → List aA
  | [] => AZ p n
  | j :: r => if j.At = p then wE p (n + j.Net) r else AZ p n ++ wE j.At j.Net r

def grp : List aA → List aA
  | [] => []
  | j :: r => wE j.At j.Net r

abbrev TP (a b : aA) : Prop := a.At ≤ b.At

theorem KT {t : Int} (ht : t < 1125899906842624) : ∀ {r : List aA} {p n : Int}, val (wE p n r) t = (if p ≤ t then n else 0) + val r t
  | [], p, n => by
    unfold wE AZ
    split
    · rw [cA, nE]
    · rw [nE]; split <;> omega
  | j :: r, p, n => by
    unfold wE
    split
    · rename_i h
      rw [KT ht, cA, h]; split <;> omega
    · rw [oJ, KT ht, cA]
      have : val (AZ p n) t = if p ≤ t then n else 0 := by
        unfold AZ
        split
        · rw [cA, nE]; simp
        · rw [nE]; split <;> omega
      rw [this]

theorem aB6 {t : Int} (ht : t < 1125899906842624) : ∀ {r : List aA}, val (grp r) t = val r t
  | [] => rfl
  | j :: r => by unfold grp; rw [KT ht, cA]

theorem OC : ∀ {r : List aA} {p n last : Int}, last < p → (∀ j ∈ r, p ≤ j.At) → Srt TP r → Up last (wE p n r)
  | [], p, n, last, h, _, _ => by
    unfold wE AZ
    split
    · rename_i h'; exact ⟨⟨h, h'.2, h'.1⟩, trivial⟩
    · trivial
  | j :: r, p, n, last, h, hp, hs => by
    have hj := hp j (by simp)
    have hs' := List.pairwise_cons.1 hs
    unfold wE
    split
    · exact OC h (fun k hk => hp k (by simp [hk])) hs'.2
    · have ih : Up p (wE j.At j.Net r) := OC (by omega) (fun k hk => hs'.1 k hk) hs'.2
      unfold AZ
      split
      · rename_i h'; exact ⟨⟨h, h'.2, h'.1⟩, ih⟩
      · exact ih.weaken (by omega)

theorem aC0 {r : List aA} (h : ∀ j ∈ r, -2 < j.At) (hs : Srt TP r) : Up (-2) (grp r) := by
  cases r with
  | nil => trivial
  | cons j r =>
    have hs' := List.pairwise_cons.1 hs
    exact OC (h j (by simp)) (fun k hk => hs'.1 k hk) hs'.2

theorem UY {l out : List aA} (hl : l.length ≤ 1099511627776) (hb : ∀ j ∈ l, j.Net ≤ 1048576 ∧ -1048576 ≤ j.Net) : ∀ (r : List aA) (k : Nat) (p n : Int), l.drop k = r → k ≤ l.length → n ≤ 1048576 * k → -(1048576 * k) ≤ n →
    ∃ n' k', k ≤ k' ∧ k' ≤ l.length ∧ wE p n r = AZ p n' ++ grp (l.drop k') ∧ lp (fun s : List aA × List aA × Int × aA => jV s.1 s.2.1 s.2.2.1 s.2.2.2) (l, out, (k : Int), ⟨p, n⟩) = some (l, out, ((k' : Nat) : Int), ⟨p, n'⟩) ∧ (∀ j r', r = j :: r' → j.At = p → k < k')
  | [], k, p, n, hd, hk, _, _ => by
    have : k = l.length := by
      have := congrArg List.length hd
      simp only [List.length_drop, List.length_nil] at this; omega
    subst this
    refine ⟨n, l.length, Nat.le_refl _, Nat.le_refl _, by simp [wE, grp], cQ ?_, fun j r' h => by cases h⟩
    show jV _ _ _ _ = _
    simp only [jV, jO, Bool.false_and, cond_false]
    exact bF (fun h => by cases h)
  | a :: r, k, p, n, hd, hk, h1, h2 => by
    obtain ⟨e1, e2⟩ := drop_cons hd
    have hlt : k < l.length := (List.getElem?_eq_some_iff.1 e1).1
    obtain ⟨d1, d2, d3, d4⟩ := idx e1 (by omega)
    have ha := hb a (List.mem_of_getElem? e1)
    by_cases h : a.At = p
    · have hw : IntKind.i64.wrap (n + a.Net) = n + a.Net := gX (by omega) (by omega)
      obtain ⟨n', k', k1, k2, k3, k4, _⟩ := UY hl hb r (k + 1) p (n + a.Net) e2 (by omega) (by omega) (by omega) (out := out)
      refine ⟨n', k', by omega, k2, by simp [wE, h, k3], ?_, fun _ _ _ _ => by omega⟩
      have hb : (fun s : List aA × List aA × Int × aA => jV s.1 s.2.1 s.2.2.1 s.2.2.2) (l, out, (k : Int), ⟨p, n⟩) = some (.inl (l, out, ((k + 1 : Nat) : Int), ⟨p, n + a.Net⟩)) := by
        show jV _ _ _ _ = _
        simp only [jV, d1, Bool.true_and, d3, d4, h, decide_true, cond_true, hw]
        rw [bF (fun _ => d2), bF d2]
      rw [eT hb, k4]
    · refine ⟨n, k, Nat.le_refl _, hk, ?_, cQ ?_, fun j r' he hp => ?_⟩
      · rw [hd]; simp [wE, h, grp]
      · show jV _ _ _ _ = _
        simp only [jV, d1, Bool.true_and, d3, h, decide_false, cond_false]
        exact bF (fun _ => d2)
      · cases he; exact absurd hp h

theorem aBG {l : List aA} (hl : l.length ≤ 1099511627776) (hb : ∀ j ∈ l, j.Net ≤ 1048576 ∧ -1048576 ≤ j.Net) : ∀ (m k : Nat) (out : List aA), l.length - k ≤ m → k ≤ l.length → out.length ≤ k →
    lp (fun s : List aA × List aA × Int => lU s.1 s.2.1 s.2.2) (l, out, (k : Int)) = some (out ++ grp (l.drop k)) := by
  have stop : ∀ out, lp (fun s : List aA × List aA × Int => lU s.1 s.2.1 s.2.2) (l, out, ((l.length : Nat) : Int)) = some (out ++ grp (l.drop l.length)) := by
    intro out
    refine cQ ?_
    show lU _ _ _ = _
    simp only [lU, jO, cond_false]
    simp [grp]
  intro m
  induction m with
  | zero =>
    intro k out hm hk _
    have : k = l.length := by omega
    subst this; exact stop out
  | succ m ih =>
    intro k out hm hk ho
    by_cases he : k = l.length
    · subst he; exact stop out
    · have hlt : k < l.length := by omega
      have hd : l.drop k = l[k] :: l.drop (k + 1) := List.drop_eq_getElem_cons hlt
      obtain ⟨d1, d2, d3, d4⟩ := idx (List.getElem?_eq_getElem hlt) (by omega)
      obtain ⟨n', k', k1, k2, k3, k4, k5⟩ := UY hl hb (l.drop k) k l[k].At 0 rfl hk (by omega) (by omega) (out := out)
      have hk' := k5 _ _ hd rfl
      have hbod : (fun s : List aA × List aA × Int => lU s.1 s.2.1 s.2.2) (l, out, (k : Int)) = some (.inl (l, out ++ AZ l[k].At n', ((k' : Nat) : Int))) := by
        show lU _ _ _ = _
        simp only [lU, d1, cond_true, bF d2, d3, yM, k4, Option.bind_some, vK]
        unfold AZ
        by_cases c : n' ≠ 0 ∧ l[k].At < 1125899906842624
        · have hc : (!decide (n' = 0) && decide (l[k].At < 1125899906842624)) = true := by simp [c]
          rw [hc, cond_true, if_pos c, bF (by simp only [List.length_cons, List.length_nil]; omega)]
        · have hc : (!decide (n' = 0) && decide (l[k].At < 1125899906842624)) = false := by
            rw [Bool.eq_false_iff]; intro h; apply c; simpa using h
          rw [hc, cond_false, if_neg c]; simp
      have hfl : (AZ l[k].At n').length ≤ 1 := by unfold AZ; split <;> simp
      rw [eT hbod, ih k' _ (by omega) k2 (by simp only [List.length_append]; omega)]
      have hg : grp (l.drop k) = wE l[k].At 0 (l.drop k) := by rw [hd]; simp [grp, wE]
      rw [hg, k3]; simp

theorem aCm (a b : aA) : nP a b = some (if a.At < b.At then -1 else if b.At < a.At then 1 else 0) := by
  unfold nP jF jM
  by_cases h1 : a.At < b.At
  · simp [h1]
  · by_cases h2 : b.At < a.At <;> simp [h1, h2]

theorem aDz : Cmp (fun _ => True) TP (fun y0 y1 => nP y0 y1) where
  ans x y _ _ := ⟨_, aCm x y, by unfold TP; split <;> (try split) <;> omega⟩
  trans x y z _ _ _ h1 h2 := Int.le_trans h1 h2
  total x y _ _ := Int.le_total x.At y.At

theorem aDm {l : List aA} (hl : l.length ≤ 1099511627776) : ∃ r, r.Perm l ∧ Srt TP r ∧ dB l (fun y0 y1 => nP y0 y1) = some r := by
  obtain ⟨r, r1, r2, r3⟩ := PI aDz (d := l) (fun _ _ => trivial) hl
  refine ⟨r, r1, r2, ?_⟩
  unfold dB
  rw [WI, r3]; rfl

theorem TV {f g : List aA} (h : f.Perm g) (t : Int) : val f t = val g t := by
  induction h with
  | nil => rfl
  | cons x _ ih => rw [cA, cA, ih]
  | swap x y l => rw [cA, cA, cA, cA]; omega
  | trans _ _ ih1 ih2 => rw [ih1, ih2]

theorem YJ {l : List aA} (h : l.any tG = false) : ∀ j ∈ l, j.Net ≤ 1048576 ∧ -1048576 ≤ j.Net := by
  intro j hj
  have := List.any_eq_false.1 h j hj
  simp [tG, FW] at this
  omega

theorem zP {l : List aA} (h : l.any zK = false) : ∀ j ∈ l, -2 < j.At ∧ j.At ≤ 1125899906842624 := by
  intro j hj
  have := List.any_eq_false.1 h j hj
  simp [zK] at this
  omega

theorem ID {l : List aA} (ht : ∀ j ∈ l, -2 < j.At) : Inc (-2) (OF [] (l.filter fun j => decide (j.At < 1125899906842624))) :=
  US (ps := []) (show Inc (-2) [] from trivial) fun j hj => by
    obtain ⟨h1, h2⟩ := List.mem_filter.1 hj
    exact ⟨ht j h1, by simpa using h2⟩

theorem KZ {l h : List aA} (ht : ∀ j ∈ l, -2 < j.At) (hh : Up (-2) h) (hv : ∀ t, -2 < t → t < 1125899906842624 → val h t = val l t) : xD l = h := by
  refine aBk (F := val l) (uN fun j hj => ht j hj) (ID ht) ?_ hh hv
  intro s t _ hst h2 hn
  exact DL hst fun j hj hc => hn j.At (LB.2 (Or.inr ⟨j, List.mem_filter.2 ⟨hj, by simp; omega⟩, rfl⟩)) hc

theorem norm_eq {l : List aA} (hl : l.length ≤ 1099511627776) : wL l = some (jP l) := by
  unfold wL jP
  rw [HM (g := tG) hl (fun x _ => by simp [tA, WW, tG])]
  simp only [Option.bind_some]
  cases h1 : l.any tG
  · rw [HM (f := fun y0 => tM y0) (g := zK) hl (fun x _ => rfl)]
    simp only [cond_false, Option.bind_some, Bool.false_eq_true, if_false]
    cases h2 : l.any zK
    · simp only [cond_false, Bool.false_eq_true, if_false]
      have hc : cO l = some l := by unfold cO; exact bF ⟨by omega, by omega⟩
      obtain ⟨r, r1, r2, r3⟩ := aDm hl
      rw [hc]
      simp only [Option.bind_some]
      rw [r3]
      simp only [Option.bind_some, yJ]
      have hlr : r.length ≤ 1099511627776 := by rw [r1.length_eq]; exact hl
      have := aBG hlr (fun j hj => YJ h1 j (r1.mem_iff.1 hj)) r.length 0 [] (by omega) (by omega) (by simp)
      simp only [Int.natCast_zero, List.drop_zero, List.nil_append] at this
      rw [this]
      simp only [Option.bind_some, uL, SA]
      rw [KZ (fun j hj => (zP h2 j hj).1) (aC0 (fun j hj => (zP h2 j (r1.mem_iff.1 hj)).1) r2) (fun t _ ht => by rw [aB6 ht, TV r1])]
    · simp
  · simp

end Go.Abs
namespace Go.Abs
open Go
theorem PZ (x y : ByteArray) : pH x y = decide (x = y) := by
  unfold pH
  rw [ByteArray.toList_eq, ByteArray.toList_eq]
  by_cases h : x = y
  · simp [h]
  · have : x.data.toList ≠ y.data.toList := by
      intro he
      apply h
      cases x; cases y
      congr 1
      exact Array.toList_inj.1 he
    have h2 : (x.data.toList == y.data.toList) = false := by simpa using this
    rw [h2]; simp [h]

theorem veq (a b : aG) : ((decide (a.Kind = b.Kind)) && ((decide (a.Num = b.Num)) && ((pH a.Text b.Text) && true))) = decide (a = b) := by
  rw [PZ]
  obtain ⟨a1, a2, a3⟩ := a
  obtain ⟨b1, b2, b3⟩ := b
  by_cases h1 : a1 = b1 <;> by_cases h2 : a2 = b2 <;> by_cases h3 : a3 = b3 <;> simp [h1, h2, h3]

def FX (v : aG) : Bool := decide (v.Kind = 1) && pH v.Text (⟨#[]⟩ : ByteArray)

def GB (v : aG) : Bool := ((decide (v.Kind = 2)) && (decide (v.Num = 0))) && (decide (((ByteArray.size v.Text : Nat) : Int) ≤ 64))

def FU (v : aG) : Bool := FX v || GB v

def nD (r : List aG) : Bool := decide (r.length ≤ 8) && r.all FU

theorem of_eq (v : aG) : lV v = some (if FX v then (.k_number v.Num, true) else if GB v then (.k_words v.Text, true) else (.none_, false)) := by
  unfold lV FX GB
  cases (decide (v.Kind = 1) && pH v.Text (⟨#[]⟩ : ByteArray)) <;> cases (((decide (v.Kind = 2)) && (decide (v.Num = 0))) && (decide (((ByteArray.size v.Text : Nat) : Int) ≤ 64))) <;> rfl

theorem aCD (v : aG) : wU v = some (FU v) := by
  unfold wU FU
  rw [of_eq]
  cases FX v <;> cases GB v <;> rfl

theorem SP {l : List aG} {f : aG → Option Bool} {g : aG → Bool} (hl : l.length ≤ 1099511627776) (hf : ∀ x ∈ l, f x = some (g x)) : dI l f = some (l.any g) := by
  unfold dI fQ fM
  obtain ⟨x, e, hx⟩ := CJ hl hf l 0 rfl (Nat.zero_le _)
  have e' : lp (fun s => fP f l (l.length : Nat) s) 0 = some x := e
  rw [e']
  rcases hx with ⟨rfl, h⟩ | ⟨i, rfl, _, _, h, _⟩
  · simp [dS, h]
  · simp [h]

theorem EC (r : List aG) : rC r = some (nD r) := by
  unfold rC nD
  by_cases h : r.length ≤ 8
  · have h1 : decide ((8 : Int) < ((r.length : Nat) : Int)) = false := by simp; omega
    rw [h1, cond_false, SP (g := fun v => !FU v) (by omega) (fun x _ => by simp [wJ, aCD])]
    simp only [Option.bind_some, h, decide_true, Bool.true_and]
    congr 1
    rw [List.all_eq_not_any_not]
  · have h1 : decide ((8 : Int) < ((r.length : Nat) : Int)) = true := by simp; omega
    rw [h1, cond_true]
    simp [h]

theorem MA {α : Type} [DecidableEq α] {f g : List α} {body : Int → Option (Int ⊕ (Unit ⊕ Bool))} (he : f.length = g.length)
    (hb : ∀ (i : Nat) a b, f[i]? = some a → g[i]? = some b → body i = some (if a = b then .inl ((i + 1 : Nat) : Int) else .inr (.inr false)))
    (hend : body (f.length : Nat) = some (.inr (.inl ()))) : ∀ (m k : Nat), f.length - k = m → k ≤ f.length → lp body (k : Int) = some (if f.drop k = g.drop k then .inl () else .inr false)
  | 0, k, hm, hk => by
    have : k = f.length := by omega
    subst this
    rw [List.drop_length, he, List.drop_length, if_pos rfl]
    rw [← he]
    exact cQ hend
  | m + 1, k, hm, hk => by
    have h1 : k < f.length := by omega
    have h2 : k < g.length := by omega
    have hbk := hb k _ _ (List.getElem?_eq_getElem h1) (List.getElem?_eq_getElem h2)
    have e1 : f.drop k = f[k] :: f.drop (k + 1) := List.drop_eq_getElem_cons h1
    have e2 : g.drop k = g[k] :: g.drop (k + 1) := List.drop_eq_getElem_cons h2
    have hiff : (f.drop k = g.drop k) ↔ (f[k] = g[k] ∧ f.drop (k + 1) = g.drop (k + 1)) := by rw [e1, e2, List.cons.injEq]
    by_cases h : f[k] = g[k]
    · rw [if_pos h] at hbk
      rw [eT hbk, MA he hb hend m (k + 1) (by omega) (by omega)]
      simp only [hiff, h, true_and]
    · rw [if_neg h] at hbk
      rw [cQ hbk]
      simp only [hiff, h, false_and, if_false]

theorem MQ {α : Type} {f g : List α} (h : f.length ≠ g.length) : (!decide (((f.length : Nat) : Int) = ((g.length : Nat) : Int))) = true := by simp; omega

theorem MF {α : Type} {f g : List α} (h : f.length = g.length) : (!decide (((f.length : Nat) : Int) = ((g.length : Nat) : Int))) = false := by simp [h]

theorem LY (a b : List aG) (hl : a.length ≤ 17592186044416) : vY a b = some (decide (a = b)) := by
  unfold vY iF
  by_cases he : a.length = b.length
  · rw [MF he, cond_false]
    unfold gY
    have := MA (f := a) (g := b) (body := fun s => dL a b (a.length : Nat) s) he ?_ ?_ a.length 0 rfl (Nat.zero_le _)
    · simp only [Int.natCast_zero, List.drop_zero] at this
      rw [this]
      by_cases h : a = b <;> simp [h, eN]
    · intro i x y hx hy
      obtain ⟨d1, d2, d3, d4⟩ := idx hx (by omega)
      obtain ⟨_, e2, e3, _⟩ := idx hy (by omega)
      simp only [dL, d1, cond_true, bF d2, bF e2, d3, e3, d4, veq]
      by_cases h : x = y <;> simp [h]
    · simp only [dL, jO, cond_false]
  · rw [MQ he, cond_true]
    have : a ≠ b := fun h => he (by rw [h])
    simp [this]

theorem RL (a b : List aG) (hl : a.length ≤ 17592186044416) : uV a b = some (decide (a = b)) := by
  unfold uV
  by_cases he : a.length = b.length
  · rw [MF he, cond_false]
    unfold xM
    have := MA (f := a) (g := b) (body := fun s => qT a b s) he ?_ ?_ a.length 0 rfl (Nat.zero_le _)
    · simp only [Int.natCast_zero, List.drop_zero] at this
      rw [this]
      by_cases h : a = b <;> simp [h, tD]
    · intro i x y hx hy
      obtain ⟨d1, d2, d3, d4⟩ := idx hx (by omega)
      obtain ⟨_, e2, e3, _⟩ := idx hy (by omega)
      simp only [qT, d1, cond_true, bF d2, bF e2, d3, e3, d4, veq]
      by_cases h : x = y <;> simp [h]
    · simp only [qT, jO, cond_false]
  · rw [MQ he, cond_true]
    have : a ≠ b := fun h => he (by rw [h])
    simp [this]

structure HU {α : Type} (c : α → α → Int) : Prop where
  eq : ∀ a b, c a b = 0 ↔ a = b
  anti : ∀ a b, c a b < 0 ↔ 0 < c b a
  trans : ∀ a b d, c a b < 0 → c b d < 0 → c a d < 0

def rM (x y : Int) : Int := if x < y then -1 else if y < x then 1 else 0

theorem BW : HU rM where
  eq a b := by unfold rM; (repeat' split) <;> omega
  anti a b := by unfold rM; (repeat' split) <;> omega
  trans a b d := by unfold rM; (repeat' split) <;> omega

def lT {α : Type} [DecidableEq α] (c : α → α → Int) : List α → List α → Int
  | [], [] => 0
  | [], _ :: _ => -1
  | _ :: _, [] => 1
  | a :: r, b :: s => if a = b then lT c r s else c a b

theorem HU.list {α : Type} [DecidableEq α] {c : α → α → Int} (h : HU c) : HU (lT c) where
  eq := by
    intro a
    induction a with
    | nil => intro b; cases b <;> simp [lT]
    | cons x r ih =>
      intro b
      cases b with
      | nil => simp [lT]
      | cons y s =>
        unfold lT
        split
        · rename_i e; subst e; rw [ih]; simp
        · rename_i e
          have := h.eq x y
          constructor
          · intro h0; exact absurd (this.1 h0) e
          · intro h0; cases h0; exact absurd rfl e
  anti := by
    intro a
    induction a with
    | nil => intro b; cases b <;> simp [lT]
    | cons x r ih =>
      intro b
      cases b with
      | nil => simp [lT]
      | cons y s =>
        unfold lT
        by_cases e : x = y
        · subst e; simp only [if_true]; exact ih s
        · rw [if_neg e, if_neg (fun e' => e e'.symm)]; exact h.anti x y
  trans := by
    intro a
    induction a with
    | nil =>
      intro b d
      cases b <;> cases d <;> simp [lT]
    | cons x r ih =>
      intro b d
      cases b with
      | nil => simp [lT]
      | cons y s =>
        cases d with
        | nil => simp [lT]
        | cons z t =>
          unfold lT
          by_cases e1 : x = y
          · subst e1
            rw [if_pos rfl]
            by_cases e2 : x = z
            · subst e2; rw [if_pos rfl, if_pos rfl]; exact ih s t
            · rw [if_neg e2, if_neg e2]; exact fun _ h => h
          · rw [if_neg e1]
            by_cases e2 : y = z
            · have hz : ¬ x = z := fun e => e1 (e.trans e2.symm)
              intro h _
              rw [if_neg hz, ← e2]; exact h
            · rw [if_neg e2]
              intro h1 h2
              by_cases e3 : x = z
              · subst e3
                have h3 := (h.anti x y).1 h1
                omega
              · rw [if_neg e3]; exact h.trans x y z h1 h2

def LR (a b : UInt8) : Int := if a < b then -1 else if b < a then 1 else 0

theorem LS : HU LR where
  eq a b := by
    unfold LR
    constructor
    · intro h
      split at h
      · cases h
      · split at h
        · cases h
        · rename_i h1 h2
          rw [UInt8.lt_iff_toNat_lt] at h1 h2
          exact UInt8.toNat_inj.1 (by omega)
    · rintro rfl
      have : ¬ a < a := by rw [UInt8.lt_iff_toNat_lt]; omega
      simp [this]
  anti a b := by
    unfold LR
    simp only [UInt8.lt_iff_toNat_lt]
    (repeat' split) <;> omega
  trans a b d := by
    unfold LR
    simp only [UInt8.lt_iff_toNat_lt]
    (repeat' split) <;> omega

theorem DC : ∀ (a b : List UInt8), Go.Lib.compareBytes a b = lT LR a b
  | [], [] => rfl
  | [], _ :: _ => rfl
  | _ :: _, [] => rfl
  | a :: r, b :: s => by
    unfold Go.Lib.compareBytes lT
    rw [DC r s]
    by_cases e : a = b
    · subst e
      have : ¬ a < a := by rw [UInt8.lt_iff_toNat_lt]; omega
      simp [this]
    · rw [if_neg e]
      unfold LR
      have : ¬ (¬ a < b ∧ ¬ b < a) := by
        rintro ⟨h1, h2⟩
        rw [UInt8.lt_iff_toNat_lt] at h1 h2
        exact e (UInt8.toNat_inj.1 (by omega))
      by_cases h1 : a < b
      · simp [h1]
      · have h2 : b < a := Classical.byContradiction fun h2 => this ⟨h1, h2⟩
        simp [h1, h2]

def SQ (a b : ByteArray) : Int := lT LR a.data.toList b.data.toList

theorem aCz (a b : ByteArray) : OU a b = SQ a b := DC _ _

theorem data_inj {x y : ByteArray} (h : x.data.toList = y.data.toList) : x = y := by
  cases x; cases y
  congr 1
  exact Array.toList_inj.1 h

theorem FY : HU SQ where
  eq a b := by unfold SQ; rw [(LS.list).eq]; exact ⟨data_inj, fun h => by rw [h]⟩
  anti a b := (LS.list).anti _ _
  trans a b d := (LS.list).trans _ _ _

def BV (a b : aG) : Int := if a.Kind = b.Kind then (if a.Num = b.Num then SQ a.Text b.Text else rM a.Num b.Num) else rM a.Kind b.Kind

theorem aBF : HU BV where
  eq a b := by
    obtain ⟨a1, a2, a3⟩ := a
    obtain ⟨b1, b2, b3⟩ := b
    unfold BV
    simp only [aG.mk.injEq]
    by_cases h1 : a1 = b1
    · by_cases h2 : a2 = b2
      · simp [h1, h2, FY.eq]
      · simp [h1, h2, BW.eq]
    · simp [h1, BW.eq]
  anti a b := by
    unfold BV
    by_cases h1 : a.Kind = b.Kind
    · rw [if_pos h1, if_pos h1.symm]
      by_cases h2 : a.Num = b.Num
      · rw [if_pos h2, if_pos h2.symm]; exact FY.anti _ _
      · rw [if_neg h2, if_neg (fun h => h2 h.symm)]; exact BW.anti _ _
    · rw [if_neg h1, if_neg (fun h => h1 h.symm)]; exact BW.anti _ _
  trans a b d := by
    unfold BV
    intro h1 h2
    have lt : ∀ {x y : Int}, rM x y < 0 → x < y := fun {x y} h => by unfold rM at h; split at h <;> (try split at h) <;> omega
    have mk : ∀ {x y : Int}, x < y → rM x y < 0 := fun {x y} h => by unfold rM; rw [if_pos h]; omega
    by_cases e1 : a.Kind = b.Kind
    · rw [if_pos e1] at h1
      by_cases e2 : b.Kind = d.Kind
      · rw [if_pos e2] at h2
        rw [if_pos (e1.trans e2)]
        by_cases f1 : a.Num = b.Num
        · rw [if_pos f1] at h1
          by_cases f2 : b.Num = d.Num
          · rw [if_pos f2] at h2
            rw [if_pos (f1.trans f2)]
            exact FY.trans _ _ _ h1 h2
          · rw [if_neg f2] at h2
            rw [f1, if_neg f2]; exact h2
        · rw [if_neg f1] at h1
          have g1 := lt h1
          by_cases f2 : b.Num = d.Num
          · rw [← f2, if_neg f1]; exact h1
          · rw [if_neg f2] at h2
            have g2 := lt h2
            rw [if_neg (by omega)]
            exact mk (by omega)
      · rw [if_neg e2] at h2
        rw [e1, if_neg e2]; exact h2
    · rw [if_neg e1] at h1
      have g1 := lt h1
      by_cases e2 : b.Kind = d.Kind
      · rw [← e2, if_neg e1]; exact h1
      · rw [if_neg e2] at h2
        have g2 := lt h2
        rw [if_neg (by omega)]
        exact mk (by omega)

def jH (a b : List aG) : Int := lT BV a b

theorem jU : HU jH := aBF.list

end Go.Abs
namespace Go.Abs
open Go
theorem QN (x y : Int) : jF x y = some (rM x y) := by
  unfold jF jM rM
  by_cases h1 : x < y
  · simp [h1]
  · by_cases h2 : y < x <;> simp [h1, h2]

theorem aAF (x y : Int) : eF x y = some (rM x y) := by
  unfold eF jQ rM
  by_cases h1 : x < y
  · simp [h1]
  · by_cases h2 : y < x <;> simp [h1, h2]

theorem JF {v : aG} (h : FX v = true) : v.Kind = 1 ∧ v.Text = (⟨#[]⟩ : ByteArray) := by
  simp only [FX, PZ, Bool.and_eq_true, decide_eq_true_eq] at h; exact h

theorem GK {v : aG} (h : GB v = true) : v.Kind = 2 ∧ v.Num = 0 ∧ v.Text.size ≤ 64 := by
  simp only [GB, Bool.and_eq_true, decide_eq_true_eq] at h; exact ⟨h.1.1, h.1.2, by omega⟩

theorem XE {v : aG} (h : FU v = true) : FX v = true ∨ (FX v = false ∧ GB v = true) := by
  unfold FU at h
  cases hn : FX v
  · rw [hn] at h; exact .inr ⟨rfl, by simpa using h⟩
  · exact .inl rfl

theorem aAx (a : ByteArray) : SQ a a = 0 := (FY.eq a a).2 rfl

theorem IC (a : Int) : rM a a = 0 := (BW.eq a a).2 rfl

theorem aA0 {a b : aG} (ha : FU a = true) (hb : FU b = true) : rE a b = some (BV a b) := by
  unfold rE
  simp only [of_eq, Option.bind_some]
  rcases XE ha with h1 | ⟨h1, h1'⟩ <;> rcases XE hb with h2 | ⟨h2, h2'⟩
  · obtain ⟨k1, t1⟩ := JF h1
    obtain ⟨k2, t2⟩ := JF h2
    simp only [h1, h2, if_true, Bool.not_true, Bool.or_self, cond_false, aAF, Option.bind_some]
    unfold BV
    rw [k1, k2, t1, t2, if_pos rfl, aAx]
    by_cases hn : a.Num = b.Num
    · rw [if_pos hn, hn, IC]
    · rw [if_neg hn]
  · obtain ⟨k1, t1⟩ := JF h1
    obtain ⟨k2, n2, _⟩ := GK h2'
    simp only [h1, h2, h2', if_true, Bool.false_eq_true, if_false, Bool.not_true, Bool.or_self, cond_false]
    unfold BV
    rw [k1, k2]; rfl
  · obtain ⟨k1, n1, _⟩ := GK h1'
    obtain ⟨k2, t2⟩ := JF h2
    simp only [h1, h1', h2, if_true, Bool.false_eq_true, if_false, Bool.not_true, Bool.or_self, cond_false]
    unfold BV
    rw [k1, k2]; rfl
  · obtain ⟨k1, n1, _⟩ := GK h1'
    obtain ⟨k2, n2, _⟩ := GK h2'
    simp only [h1, h1', h2, h2', if_true, Bool.false_eq_true, if_false, Bool.not_true, Bool.or_self, cond_false]
    unfold BV nG iD
    rw [k1, k2, n1, n2, if_pos rfl, if_pos rfl]
    simp [aCz]

theorem JO {r : List aG} (h : nD r = true) : r.length ≤ 8 ∧ ∀ v ∈ r, FU v = true := by
  simp only [nD, Bool.and_eq_true, decide_eq_true_eq, List.all_eq_true] at h; exact h

theorem aBT {a b : List aG} {k : Nat} (hk : k = a.length ∨ k = b.length) (h1 : k ≤ a.length) (h2 : k ≤ b.length) : jH (a.drop k) (b.drop k) = rM a.length b.length := by
  rcases hk with rfl | rfl
  · rw [List.drop_length]
    by_cases h : a.length = b.length
    · rw [h, List.drop_length, IC]; rfl
    · rw [List.drop_eq_getElem_cons (by omega)]
      show (-1 : Int) = _
      unfold rM; rw [if_pos (by omega)]
  · rw [List.drop_length]
    by_cases h : a.length = b.length
    · rw [← h, List.drop_length, IC]; rfl
    · rw [List.drop_eq_getElem_cons (by omega)]
      show (1 : Int) = _
      unfold rM; rw [if_neg (by omega), if_pos (by omega)]

theorem XN {a b : List aG} (hl : a.length ≤ 8) (hlb : b.length ≤ 8) (n : Nat) (hn : n = min a.length b.length) : ∀ (m k : Nat), n - k = m → k ≤ n →
    ∃ x, lp (fun s : Int × Int => bU (fun st y0 => (jG y0 st b).bind fun o => some (o.2, o.1)) (a.take n) (n : Nat) s.1 s.2) ((k : Int) - 1, (k : Int)) = some x ∧
      ((∃ sg, x = .inl sg ∧ jH (a.drop k) (b.drop k) = rM a.length b.length) ∨
        (∃ i : Nat, x = .inr ((i : Int), (i : Int)) ∧ i < a.length ∧ i < b.length ∧ jH (a.drop k) (b.drop k) = BV (a.getD i default) (b.getD i default)))
  | 0, k, hm, hk => by
    have : k = n := by omega
    subst this
    refine ⟨.inl ((k : Int) - 1), cQ ?_, .inl ⟨_, rfl, aBT (by omega) (by omega) (by omega)⟩⟩
    show bU _ _ _ _ _ = _
    simp only [bU, jO, cond_false]
  | m + 1, k, hm, hk => by
    have h1 : k < a.length := by omega
    have h2 : k < b.length := by omega
    have ht : (a.take n)[k]? = some a[k] := by
      rw [List.getElem?_take_of_lt (by omega)]; exact List.getElem?_eq_getElem h1
    obtain ⟨d1, d2, d3, d4⟩ := idx ht (by simp; omega)
    have hlt : (a.take n).length = n := by simp; omega
    rw [hlt] at d1 d2
    obtain ⟨_, e2, e3, _⟩ := idx (List.getElem?_eq_getElem h2) (by omega)
    have hw : IntKind.i64.wrap ((k : Int) - 1 + 1) = (k : Int) := by rw [gX (by omega) (by omega)]; omega
    have hb : (fun s : Int × Int => bU (fun st y0 => (jG y0 st b).bind fun o => some (o.2, o.1)) (a.take n) (n : Nat) s.1 s.2) ((k : Int) - 1, (k : Int)) =
        some (if a[k] = b[k] then .inl ((k : Int), ((k + 1 : Nat) : Int)) else .inr (.inr ((k : Int), (k : Int)))) := by
      show bU _ _ _ _ _ = _
      simp only [bU, d1, cond_true, hlt, bF d2, d3, d4, jG, hw, bF e2, e3, veq, Option.bind_some]
      by_cases h : a[k] = b[k] <;> simp [h]
    have ea : a.drop k = a[k] :: a.drop (k + 1) := List.drop_eq_getElem_cons h1
    have eb : b.drop k = b[k] :: b.drop (k + 1) := List.drop_eq_getElem_cons h2
    by_cases h : a[k] = b[k]
    · rw [if_pos h] at hb
      obtain ⟨x, e, hx⟩ := XN hl hlb n hn m (k + 1) (by omega) (by omega)
      have hc : jH (a.drop k) (b.drop k) = jH (a.drop (k + 1)) (b.drop (k + 1)) := by
        rw [ea, eb]; unfold jH; rw [lT, if_pos h]
      refine ⟨x, ?_, by rw [hc]; exact hx⟩
      rw [eT hb]
      rw [show ((k + 1 : Nat) : Int) - 1 = (k : Int) by omega] at e
      exact e
    · rw [if_neg h] at hb
      refine ⟨_, cQ hb, .inr ⟨k, rfl, h1, h2, ?_⟩⟩
      rw [ea, eb]; unfold jH; rw [lT, if_neg h]
      simp [List.getD_eq_getElem?_getD, h1, h2]

theorem QI (a b : List aG) : qP a b = some (if nD a && nD b then jH a b else 0) := by
  unfold qP
  rw [EC]
  simp only [Option.bind_some]
  cases ha : nD a
  · simp [cV]
  · simp only [Bool.not_true, Bool.not_false, cV, cond_true, EC, Option.bind_some, Bool.false_or]
    cases hb : nD b
    · simp
    · obtain ⟨la, ma⟩ := JO ha
      obtain ⟨lb, mb⟩ := JO hb
      have hif : (if ((List.length b : Nat) : Int) < ((List.length a : Nat) : Int) then ((List.length b : Nat) : Int) else ((List.length a : Nat) : Int)) = ((min a.length b.length : Nat) : Int) := by split <;> omega
      have hlt : (a.take (min a.length b.length)).length = min a.length b.length := by rw [List.length_take]; omega
      simp only [Bool.not_true, cond_false, hif, Int.toNat_natCast, uG, Option.bind_some, fF, eU, hlt, Bool.and_self, if_true]
      rw [bF ⟨by omega, by omega⟩]
      obtain ⟨x, e, hx⟩ := XN (a := a) (b := b) la lb _ rfl _ 0 rfl (Nat.zero_le _)
      have e' : lp (fun s : Int × Int => bU (fun st y0 => (jG y0 st b).bind fun o => some (o.2, o.1)) (a.take (min a.length b.length)) (min a.length b.length : Nat) s.1 s.2) ((-1 : Int), (0 : Int)) = some x := e
      rw [e']
      simp only [List.drop_zero] at hx
      rcases hx with ⟨sg, rfl, h⟩ | ⟨i, rfl, h1, h2, h⟩
      · simp [dJ, QN, h]
      · have hi : decide ((i : Int) < 0) = false := by simp
        simp only [Option.bind_some, Sum.elim_inr, hi, cond_false, Int.toNat_natCast]
        rw [bF ⟨by omega, by omega⟩, bF ⟨by omega, by omega⟩]
        have g1 : a.getD i default ∈ a := by simp [List.getD_eq_getElem?_getD, h1]
        have g2 : b.getD i default ∈ b := by simp [List.getD_eq_getElem?_getD, h2]
        rw [aA0 (ma _ g1) (mb _ g2), h]
        simp only [Option.bind_some]

end Go.Abs
namespace Go.Abs
open Go
def jE (e : aC) : aA := ⟨e.At, e.Net⟩

def gA (r : List aG) (f : List aA) : List aC → List (List aG × List aA)
  | [] => [(r, f)]
  | e :: l => if e.Row = r then gA r (f ++ [jE e]) l else (r, f) :: gA e.Row [jE e] l

def groups : List aC → List (List aG × List aA)
  | [] => []
  | e :: l => gA e.Row [jE e] l

def itG {σ : Type} (y : σ → List aG → List aA → Option (σ × Bool)) : List (List aG × List aA) → σ → Option σ
  | [], s => some s
  | g :: gs, s => (y s g.1 g.2).bind fun x => if x.2 then itG y gs x.1 else some x.1

def okL (l : List aC) : Prop := l.length ≤ 3518437208783 ∧ ∀ e ∈ l, e.Row.length ≤ 4398046510976

theorem zA {r : List aG} (h : r.length ≤ 4398046510976) : pI r = some r := by
  unfold pI
  rw [bF ⟨by omega, by omega, by omega⟩, bF (by simp only [List.length_nil, Nat.zero_add]; omega)]
  rfl

theorem MT {σ : Type} {y : σ → List aG → List aA → Option (σ × Bool)} {l : List aC} (hl : okL l) (row : List aG) (sg : σ) : ∀ (r : List aC) (k : Nat) (f : List aA), l.drop k = r → k ≤ l.length → f.length ≤ k →
    ∃ k' f', k ≤ k' ∧ k' ≤ l.length ∧ f'.length ≤ k' ∧ lp (fun s : σ × Int × List aA => iJ y l row s.1 s.2.1 s.2.2) (sg, (k : Int), f) = some (sg, ((k' : Nat) : Int), f') ∧
      gA row f r = (row, f') :: groups (l.drop k') ∧ (∀ e r', r = e :: r' → e.Row = row → k < k')
  | [], k, f, hd, hk, hf => by
    have : k = l.length := by
      have := congrArg List.length hd
      simp only [List.length_drop, List.length_nil] at this; omega
    subst this
    refine ⟨l.length, f, Nat.le_refl _, Nat.le_refl _, hf, cQ ?_, by simp [gA, groups], fun e r' h => by cases h⟩
    show iJ _ _ _ _ _ _ = _
    simp only [iJ, jO, cV, cond_false, Option.bind_some, Bool.false_and]
    exact bF (fun h => by cases h)
  | a :: r, k, f, hd, hk, hf => by
    obtain ⟨h1, h2⟩ := drop_cons hd
    have hlt : k < l.length := (List.getElem?_eq_some_iff.1 h1).1
    obtain ⟨hll, hlr⟩ := hl
    obtain ⟨d1, d2, d3, d4⟩ := idx h1 (by omega)
    have har := hlr a (List.mem_of_getElem? h1)
    have hb : (fun s : σ × Int × List aA => iJ y l row s.1 s.2.1 s.2.2) (sg, (k : Int), f) = some (if a.Row = row then .inl (sg, ((k + 1 : Nat) : Int), f ++ [jE a]) else .inr (sg, (k : Int), f)) := by
      show iJ _ _ _ _ _ _ = _
      simp only [iJ, d1, d3, d4, cV, cond_true, LY a.Row row (by omega), Option.bind_some, Bool.true_and]
      rw [bF (fun _ => d2)]
      by_cases e : a.Row = row
      · simp only [e, decide_true, cond_true, if_true]
        rw [bF d2, bF d2, bF (by simp only [List.length_cons, List.length_nil]; omega)]
        rfl
      · simp [e]
    by_cases e : a.Row = row
    · rw [if_pos e] at hb
      obtain ⟨k', f', g1, g2, g3, g4, g5, _⟩ := MT ⟨hll, hlr⟩ row sg r (k + 1) (f ++ [jE a]) h2 (by omega) (by simp; omega) (y := y)
      refine ⟨k', f', by omega, g2, g3, by rw [eT hb]; exact g4, by simp [gA, e, g5], fun _ _ _ _ => by omega⟩
    · rw [if_neg e] at hb
      refine ⟨k, f, Nat.le_refl _, hk, hf, cQ hb, ?_, fun b r' h hr => by cases h; exact absurd hr e⟩
      rw [hd]; simp [gA, e, groups]

theorem ZA {σ : Type} {y : σ → List aG → List aA → Option (σ × Bool)} {l : List aC} (hl : okL l) : ∀ (m k : Nat) (sg s' : σ), l.length - k ≤ m → k ≤ l.length → itG y (groups (l.drop k)) sg = some s' →
    ∃ x, lp (fun s : σ × Int => fT y l s.1 s.2) (sg, (k : Int)) = some x ∧ Sum.elim id id x = s' := by
  have stop : ∀ (sg s' : σ), itG y (groups (l.drop l.length)) sg = some s' → ∃ x, lp (fun s : σ × Int => fT y l s.1 s.2) (sg, ((l.length : Nat) : Int)) = some x ∧ Sum.elim id id x = s' := by
    intro sg s' h
    rw [List.drop_length] at h
    simp only [groups, itG, Option.some.injEq] at h
    refine ⟨.inl sg, cQ ?_, h⟩
    show fT _ _ _ _ = _
    simp only [fT, jO, cond_false]
  intro m
  induction m with
  | zero =>
    intro k sg s' hm hk h
    have : k = l.length := by omega
    subst this; exact stop sg s' h
  | succ m ih =>
    intro k sg s' hm hk h
    by_cases he : k = l.length
    · subst he; exact stop sg s' h
    · have hlt : k < l.length := by omega
      have hd : l.drop k = l[k] :: l.drop (k + 1) := List.drop_eq_getElem_cons hlt
      obtain ⟨d1, d2, d3, d4⟩ := idx (List.getElem?_eq_getElem hlt) (by have := hl.1; omega)
      obtain ⟨k', f', g1, g2, g3, g4, g5, g6⟩ := MT hl l[k].Row sg (l.drop k) k [] rfl hk (by simp) (y := y)
      have hk' := g6 _ _ hd rfl
      have hg : groups (l.drop k) = (l[k].Row, f') :: groups (l.drop k') := by
        rw [← g5, hd]; simp [groups, gA]
      rw [hg] at h
      simp only [itG] at h
      obtain ⟨x, hx, h⟩ := aU h
      have hrow := hl.2 _ (List.getElem_mem hlt)
      have hb : (fun s : σ × Int => fT y l s.1 s.2) (sg, (k : Int)) = some (if x.2 then .inl (x.1, ((k' : Nat) : Int)) else .inr (.inr x.1)) := by
        show fT _ _ _ _ = _
        simp only [fT, d1, cond_true, bF d2, d3, sZ, g4, Option.bind_some, qG, zA hrow, hx]
        cases x.2 <;> simp
      cases hx2 : x.2
      · rw [hx2] at hb h
        simp only [Bool.false_eq_true, if_false, Option.some.injEq] at hb h
        exact ⟨_, cQ hb, h⟩
      · rw [hx2] at hb h
        simp only [if_true] at hb h
        obtain ⟨z, hz1, hz2⟩ := ih k' x.1 s' (by omega) g2 h
        exact ⟨z, by rw [eT hb]; exact hz1, hz2⟩

theorem PA {σ : Type} {y : σ → List aG → List aA → Option (σ × Bool)} {l : List aC} (hl : okL l) {s s' : σ} (h : itG y (groups l) s = some s') : mT y l s = some s' := by
  unfold mT sV
  obtain ⟨x, h1, h2⟩ := ZA hl l.length 0 s s' (by omega) (Nat.zero_le _) (by simpa using h)
  simp only [Int.natCast_zero] at h1
  rw [h1]
  cases x <;> simpa using h2

def ahd (last : Option (List aG)) (r : List aG) : Bool := match last with
  | none => true
  | some q => decide (jH q r < 0)

def xA (p : List aA → Bool) : Option (List aG) → List (List aG × List aA) → Bool
  | _, [] => true
  | last, g :: gs => (nD g.1 && ahd last g.1 && p g.2) && xA p (some g.1) gs

theorem XB {holds : List aA → Option Bool} {p : List aA → Bool} (hp : ∀ f, holds f = some (p f)) (c : List aC) (t : Bool) : ∀ (gs : List (List aG × List aA)) (last : List aG) (b : Bool), (b = true → nD last = true) →
    ∃ x, itG (fun st r f => rnd (fun (s : Bool × (List aG) × Bool) => qC holds c s.1 s.2.1 s.2.2 r f) st) gs (.inl (t, last, b)) = some x ∧
      (if xA p (if b then some last else none) gs then ∃ u, x = .inl (t, u) else ∃ u, x = .inr (false, u))
  | [], last, b, _ => ⟨_, rfl, by simp [xA]⟩
  | g :: gs, last, b, hb => by
    have hy : qC holds c t last b g.1 g.2 = some (if nD g.1 && ahd (if b then some last else none) g.1 && p g.2 then .inl (t, g.1, true) else .inr (false, last, b)) := by
      unfold qC
      simp only [EC, Option.bind_some, QI, hp]
      cases hm : nD g.1
      · simp [cV]
      · cases b
        · cases h2 : p g.2 <;> simp [cV, ahd, h2]
        · have hl := hb rfl
          by_cases h1 : jH last g.1 < 0
          · have h1' : ¬ (0 ≤ jH last g.1) := by omega
            cases h2 : p g.2 <;> simp [cV, ahd, h2, hl, h1, h1']
          · have h1' : 0 ≤ jH last g.1 := by omega
            simp [cV, ahd, hl, h1, h1']
    cases hc : (nD g.1 && ahd (if b then some last else none) g.1 && p g.2)
    · rw [hc] at hy
      simp only [itG, rnd, hy, Option.bind_some, xA, hc]
      exact ⟨.inr (false, last, b), by simp, by simp⟩
    · rw [hc] at hy
      simp only [itG, rnd, hy, Option.bind_some, xA, hc]
      have hm : nD g.1 = true := by simp only [Bool.and_eq_true] at hc; exact hc.1.1
      obtain ⟨x, h1, h2⟩ := XB hp c t gs g.1 true (fun _ => hm)
      refine ⟨x, ?_, ?_⟩
      · simpa [rnd] using h1
      · simpa using h2

theorem XT {l : List aC} (hl : okL l) {holds : List aA → Option Bool} {p : List aA → Bool} (hp : ∀ f, holds f = some (p f)) : tW l holds = some (decide (l.length ≤ 4096) && xA p none (groups l)) := by
  unfold tW
  by_cases h : l.length ≤ 4096
  · have h1 : decide ((4096 : Int) < ((l.length : Nat) : Int)) = false := by simp; omega
    rw [h1, cond_false]
    simp only [pN, Option.bind_some, zI]
    obtain ⟨x, e1, e2⟩ := XB hp l false (groups l) [] false (fun h => by cases h)
    rw [PA hl e1]
    simp only [Bool.false_eq_true, if_false] at e2
    simp only [h, decide_true, Bool.true_and]
    cases hc : xA p none (groups l)
    · rw [hc] at e2
      simp only [Bool.false_eq_true, if_false] at e2
      obtain ⟨u, rfl⟩ := e2
      rfl
    · rw [hc] at e2
      simp only [if_true] at e2
      obtain ⟨u, rfl⟩ := e2
      rfl
  · have h1 : decide ((4096 : Int) < ((l.length : Nat) : Int)) = true := by simp; omega
    rw [h1, cond_true]
    simp [h]

def oU (l : List aC) : Bool := decide (l.length ≤ 4096) && xA dO none (groups l)

theorem NW {l : List aC} (hl : okL l) : sS l = some (oU l) := by
  unfold sS
  rw [XT hl (p := dO) (fun f => IK f)]; rfl

def NU (f : List aA) : Bool := dO f && decide (0 ≤ ES f)

def pE (l : List aC) : Bool := decide (l.length ≤ 4096) && xA NU none (groups l)

theorem aAS {l : List aC} (hl : okL l) : vE l = some (pE l) := by
  unfold vE
  rw [XT hl (p := NU) (fun f => by
    unfold rW NU
    rw [IK]
    cases h : dO f <;> simp [cV, aBn, h])]
  rfl

def gU (r : List aG) (f : List aA) : List aC := f.map fun j => ⟨r, j.At, j.Net⟩

theorem put_eq {out : List aC} {r : List aG} {f : List aA} (hr : r.length ≤ 4398046510976) (hl : out.length + f.length ≤ 1099511627776) : yS out r f = some (out ++ gU r f) := by
  unfold yS zW
  rw [xY (l := f) (body := fun s : List aC × Int => pQ r f (f.length : Nat) s.1 s.2) (fun o i => (o, i)) (fun o t => o ++ gU r t) (fun o t => o.length + t.length ≤ 1099511627776) out ?_ ?_ hl]
  · rfl
  · intro i a t o ha hi
    left
    obtain ⟨d1, d2, d3, d4⟩ := idx ha (by have := (List.getElem?_eq_some_iff.1 ha).1; omega)
    simp only [List.length_cons] at hi
    refine ⟨o ++ [⟨r, a.At, a.Net⟩], ?_, by simp; omega, by simp [gU]⟩
    show pQ _ _ _ _ _ = _
    simp only [pQ, d1, cond_true, bF d2, d3, d4, zA hr, Option.bind_some]
    exact bF (by simp only [List.length_cons, List.length_nil]; omega)
  · intro o _
    show pQ _ _ _ _ _ = _
    simp only [pQ, jO, cond_false]
    simp [gU]

def rO (by1 : List aA → List aA × Int) : List (List aG × List aA) → List aC → List aC × Int
  | [], out => (out, 0)
  | g :: gs, out => if (by1 g.2).2 ≠ 0 then ([], (by1 g.2).2) else if 4096 < (out ++ gU g.1 (by1 g.2).1).length then ([], 7) else rO by1 gs (out ++ gU g.1 (by1 g.2).1)

theorem QH {by0 : List aA → Option (List aA × Int)} {by1 : List aA → List aA × Int} (c : List aC) : ∀ (gs : List (List aG × List aA)) (out : List aC), out.length ≤ 4096 → (∀ g ∈ gs, by0 g.2 = some (by1 g.2) ∧ (by1 g.2).1.length ≤ 1024 ∧ g.1.length ≤ 4398046510976) →
    ∃ x, itG (fun st r f => rnd (fun (s : (List aC) × Int × List aC) => oE by0 c s.1 s.2.1 s.2.2 r f) st) gs (.inl ([], 0, out)) = some x ∧ Sum.elim (fun s : (List aC) × Int × List aC => (s.2.2, (0 : Int))) (fun s => (s.1, s.2.1)) x = rO by1 gs out
  | [], out, _, _ => ⟨_, rfl, rfl⟩
  | g :: gs, out, ho, hg => by
    obtain ⟨h1, h2, h3⟩ := hg g (by simp)
    have hy : oE by0 c [] 0 out g.1 g.2 = some (if (by1 g.2).2 ≠ 0 then .inr ([], (by1 g.2).2, out) else if 4096 < (out ++ gU g.1 (by1 g.2).1).length then .inr ([], 7, out ++ gU g.1 (by1 g.2).1) else .inl ([], 0, out ++ gU g.1 (by1 g.2).1)) := by
      unfold oE
      simp only [h1, Option.bind_some, put_eq h3 (show out.length + (by1 g.2).1.length ≤ 1099511627776 by omega)]
      by_cases e1 : (by1 g.2).2 = 0
      · by_cases e2 : 4096 < (out ++ gU g.1 (by1 g.2).1).length
        · have e2' : (4096 : Int) < (((out ++ gU g.1 (by1 g.2).1).length : Nat) : Int) := by omega
          simp only [e1, e2, e2', decide_true, Bool.not_true, cond_false, cond_true, ne_eq, not_true_eq_false, if_false, if_true]
        · have e2' : ¬ (4096 : Int) < (((out ++ gU g.1 (by1 g.2).1).length : Nat) : Int) := by omega
          simp only [e1, e2, e2', decide_true, decide_false, Bool.not_true, cond_false, ne_eq, not_true_eq_false, if_false]
      · simp only [e1, decide_false, Bool.not_false, cond_true, ne_eq, not_false_eq_true, if_true]
    simp only [itG, rnd, hy, Option.bind_some, rO]
    by_cases e1 : (by1 g.2).2 ≠ 0
    · rw [if_pos e1, if_pos e1]; exact ⟨_, rfl, rfl⟩
    · rw [if_neg e1, if_neg e1]
      by_cases e2 : 4096 < (out ++ gU g.1 (by1 g.2).1).length
      · rw [if_pos e2, if_pos e2]; exact ⟨_, rfl, rfl⟩
      · rw [if_neg e2, if_neg e2]
        exact QH c gs _ (by omega) (fun q hq => hg q (by simp [hq]))

theorem PY {l : List aC} (hl : okL l) {by0 : List aA → Option (List aA × Int)} {by1 : List aA → List aA × Int} (hb : ∀ g ∈ groups l, by0 g.2 = some (by1 g.2) ∧ (by1 g.2).1.length ≤ 1024 ∧ g.1.length ≤ 4398046510976) : qV l by0 = some (rO by1 (groups l) []) := by
  unfold qV
  simp only [pN, Option.bind_some, vZ]
  obtain ⟨x, e1, e2⟩ := QH (by0 := by0) (by1 := by1) l (groups l) [] (by simp) hb
  rw [PA hl e1]
  cases x <;> simpa using e2

def flat (gs : List (List aG × List aA)) : List aC := gs.flatMap fun g => gU g.1 g.2

theorem ON : ∀ (l : List aC) (r : List aG) (f : List aA), flat (gA r f l) = gU r f ++ l
  | [], r, f => by simp [gA, flat]
  | e :: l, r, f => by
    unfold gA
    split
    · rename_i h
      rw [ON l r]
      simp [gU, jE, ← h]
    · have := ON l e.Row [jE e]
      simp only [flat, List.flatMap_cons] at this ⊢
      rw [this]
      simp [gU, jE]

theorem rP (l : List aC) : flat (groups l) = l := by
  cases l with
  | nil => rfl
  | cons e l => unfold groups; rw [ON]; simp [gU, jE]

theorem RZ {r : List aG} : ∀ {l : List aC} {f : List aA} {g : List aG × List aA}, g ∈ gA r f l → f ≠ [] → g.2 ≠ [] ∧ (g.1 = r ∨ ∃ e ∈ l, g.1 = e.Row)
  | [], f, g, h, hf => by simp only [gA, List.mem_singleton] at h; subst h; exact ⟨hf, .inl rfl⟩
  | e :: l, f, g, h, hf => by
    unfold gA at h
    split at h
    · obtain ⟨h1, h2⟩ := RZ h (by simp)
      exact ⟨h1, h2.imp id fun ⟨x, hx, hx'⟩ => ⟨x, by simp [hx], hx'⟩⟩
    · rcases List.mem_cons.1 h with rfl | h
      · exact ⟨hf, .inl rfl⟩
      · obtain ⟨h1, h2⟩ := RZ (r := e.Row) h (by simp)
        refine ⟨h1, .inr ?_⟩
        rcases h2 with h2 | ⟨x, hx, hx'⟩
        · exact ⟨e, by simp, h2⟩
        · exact ⟨x, by simp [hx], hx'⟩

theorem BK {l : List aC} {g : List aG × List aA} (h : g ∈ groups l) : g.2 ≠ [] ∧ ∃ e ∈ l, g.1 = e.Row := by
  cases l with
  | nil => simp [groups] at h
  | cons e l =>
    obtain ⟨h1, h2⟩ := RZ h (by simp)
    refine ⟨h1, ?_⟩
    rcases h2 with h2 | ⟨x, hx, hx'⟩
    · exact ⟨e, by simp, h2⟩
    · exact ⟨x, by simp [hx], hx'⟩

end Go.Abs
namespace Go.Abs
open Go
def cB (l : List aC) (r : List aG) : List aA := (l.filter fun e => decide (e.Row = r)).map jE

theorem pV (a b : List aC) (r : List aG) : cB (a ++ b) r = cB a r ++ cB b r := by simp [cB]

theorem RA (q : List aG) (f : List aA) (r : List aG) : cB (gU q f) r = if q = r then f else [] := by
  induction f with
  | nil => simp [cB, gU]
  | cons j f ih =>
    have h1 : gU q (j :: f) = [⟨q, j.At, j.Net⟩] ++ gU q f := rfl
    rw [h1, pV, ih]
    by_cases h : q = r <;> simp [cB, jE, h]

def look : List (List aG × List aA) → List aG → List aA
  | [], _ => []
  | g :: gs, r => if g.1 = r then g.2 else look gs r

theorem qZ (g : List aG × List aA) (gs : List (List aG × List aA)) (r : List aG) : look (g :: gs) r = if g.1 = r then g.2 else look gs r := rfl

abbrev ltG (a b : List aG × List aA) : Prop := jH a.1 b.1 < 0

abbrev qF (gs : List (List aG × List aA)) : Prop := gs.Pairwise ltG

abbrev Full (gs : List (List aG × List aA)) : Prop := ∀ g ∈ gs, g.2 ≠ []

theorem nC {a : List aG} : ¬ jH a a < 0 := by rw [(jU.eq a a).2 rfl]; omega

theorem uZ : ∀ {gs : List (List aG × List aA)} {r : List aG}, (∀ g ∈ gs, g.1 ≠ r) → look gs r = []
  | [], _, _ => rfl
  | g :: gs, r, h => by
    rw [qZ]
    rw [if_neg (h g (by simp))]
    exact uZ fun q hq => h q (by simp [hq])

theorem yY (gs : List (List aG × List aA)) (r : List aG) : (look gs r = [] ∧ ∀ g ∈ gs, g.1 ≠ r) ∨ ∃ g ∈ gs, g.1 = r ∧ look gs r = g.2 := by
  induction gs with
  | nil => exact .inl ⟨rfl, by simp⟩
  | cons g gs ih =>
    rw [qZ]
    by_cases h : g.1 = r
    · rw [if_pos h]; exact .inr ⟨g, by simp, h, rfl⟩
    · rw [if_neg h]
      rcases ih with ⟨h1, h2⟩ | ⟨q, hq, h1, h2⟩
      · refine .inl ⟨h1, fun q hq => ?_⟩
        rcases List.mem_cons.1 hq with rfl | hq
        · exact h
        · exact h2 q hq
      · exact .inr ⟨q, by simp [hq], h1, h2⟩

theorem uR {gs : List (List aG × List aA)} (hs : qF gs) {g : List aG × List aA} (hg : g ∈ gs) : look gs g.1 = g.2 := by
  induction gs with
  | nil => simp at hg
  | cons q gs ih =>
    have hs' := List.pairwise_cons.1 hs
    rw [qZ]
    rcases List.mem_cons.1 hg with rfl | hg
    · rw [if_pos rfl]
    · rw [if_neg (fun e => by have := hs'.1 g hg; simp only [ltG, e] at this; exact nC this)]
      exact ih hs'.2 hg

theorem sQ (g : List aG × List aA) (gs : List (List aG × List aA)) : flat (g :: gs) = gU g.1 g.2 ++ flat gs := rfl

theorem qE : ∀ {gs : List (List aG × List aA)}, qF gs → ∀ r, cB (flat gs) r = look gs r
  | [], _, r => rfl
  | g :: gs, hs, r => by
    have hs' := List.pairwise_cons.1 hs
    rw [sQ, pV, RA, qE hs'.2, qZ]
    by_cases h : g.1 = r
    · rw [if_pos h, if_pos h, uZ, List.append_nil]
      intro q hq e
      have := hs'.1 q hq
      simp only [ltG, h, e] at this; exact nC this
    · rw [if_neg h, if_neg h]; rfl

theorem XK : ∀ {gs hs : List (List aG × List aA)}, qF gs → qF hs → Full gs → Full hs → (∀ r, look gs r = look hs r) → gs = hs
  | [], [], _, _, _, _, _ => rfl
  | [], h :: hs, _, _, _, fh, he => by
    have := he h.1
    simp only [qZ, look, if_true] at this
    exact absurd this.symm (fh h (by simp))
  | g :: gs, [], _, _, fg, _, he => by
    have := he g.1
    simp only [qZ, look, if_true] at this
    exact absurd this (fg g (by simp))
  | g :: gs, h :: hs, sg, sh, fg, fh, he => by
    have sg' := List.pairwise_cons.1 sg
    have sh' := List.pairwise_cons.1 sh
    by_cases e : g.1 = h.1
    · have h2 := he g.1
      simp only [look, if_true, if_pos e.symm] at h2
      have ht : gs = hs := XK sg'.2 sh'.2 (fun q hq => fg q (by simp [hq])) (fun q hq => fh q (by simp [hq])) fun r => by
        by_cases hr : g.1 = r
        · subst hr
          rw [uZ (gs := gs), uZ (gs := hs)]
          · intro q hq e'; have := sh'.1 q hq; simp only [ltG, ← e, e'] at this; exact nC this
          · intro q hq e'; have := sg'.1 q hq; simp only [ltG, e'] at this; exact nC this
        · have := he r
          simp only [look, if_neg hr, if_neg (fun x => hr (e.trans x))] at this
          exact this
      rw [ht]
      obtain ⟨g1, g2⟩ := g
      obtain ⟨h1, h3⟩ := h
      simp only at e h2
      rw [e, h2]
    · exfalso
      have hne : jH g.1 h.1 ≠ 0 := fun x => e ((jU.eq _ _).1 x)
      by_cases hlt : jH g.1 h.1 < 0
      · have h2 := he g.1
        rw [uR sg (by simp), uZ] at h2
        · exact fg g (by simp) h2
        · intro q hq e'
          rcases List.mem_cons.1 hq with rfl | hq
          · exact e e'.symm
          · have := jU.trans _ _ _ hlt (sh'.1 q hq)
            rw [e'] at this; exact nC this
      · have hlt' : jH h.1 g.1 < 0 := (jU.anti _ _).2 (by omega)
        have h2 := he h.1
        rw [uR sh (by simp), uZ] at h2
        · exact fh h (by simp) h2.symm
        · intro q hq e'
          rcases List.mem_cons.1 hq with rfl | hq
          · exact e e'
          · have := jU.trans _ _ _ hlt' (sg'.1 q hq)
            rw [e'] at this; exact nC this

theorem uQ {p : List aA → Bool} : ∀ {gs : List (List aG × List aA)} {last : Option (List aG)}, xA p last gs = true ↔ (∀ g ∈ gs, nD g.1 = true ∧ p g.2 = true) ∧ qF gs ∧ (∀ q, last = some q → ∀ g ∈ gs, jH q g.1 < 0)
  | [], last => by simp [xA]
  | g :: gs, last => by
    unfold xA
    simp only [Bool.and_eq_true, uQ (gs := gs), List.mem_cons, List.pairwise_cons]
    constructor
    · rintro ⟨⟨⟨h1, h2⟩, h3⟩, h4, h5, h6⟩
      refine ⟨?_, ⟨fun q hq => h6 _ rfl q hq, h5⟩, ?_⟩
      · rintro q (rfl | hq)
        · exact ⟨h1, h3⟩
        · exact h4 q hq
      · rintro q rfl x (rfl | hx)
        · simpa [ahd] using h2
        · simp only [ahd, decide_eq_true_eq] at h2
          exact jU.trans _ _ _ h2 (h6 _ rfl x hx)
    · rintro ⟨h1, ⟨h2, h3⟩, h4⟩
      refine ⟨⟨⟨(h1 g (.inl rfl)).1, ?_⟩, (h1 g (.inl rfl)).2⟩, fun q hq => h1 q (.inr hq), h3, ?_⟩
      · unfold ahd
        split
        · rfl
        · exact decide_eq_true (h4 _ rfl g (.inl rfl))
      · rintro q hq x hx
        cases hq
        exact h2 x hx

theorem JZ (l : List aC) : Full (groups l) := fun _ hg => (BK hg).1

theorem oD {l : List aC} (h : oU l = true) : l.length ≤ 4096 ∧ (∀ g ∈ groups l, nD g.1 = true ∧ dO g.2 = true) ∧ qF (groups l) := by
  simp only [oU, Bool.and_eq_true, decide_eq_true_eq] at h
  obtain ⟨h1, h2, _⟩ := uQ.1 h.2
  exact ⟨h.1, h1, h2⟩

theorem aA2 {l : List aC} (h : oU l = true) (r : List aG) : dO (look (groups l) r) = true := by
  rcases yY (groups l) r with ⟨h1, _⟩ | ⟨g, hg, _, h1⟩
  · rw [h1]; exact aCH
  · rw [h1]; exact ((oD h).2.1 g hg).2

theorem mW {l : List aC} (h : qF (groups l)) (r : List aG) : look (groups l) r = cB l r := by
  rw [← qE h, rP]

theorem OX (r : List aG) (f : List aA) (e : aC) (l : List aC) : gA r f (e :: l) = if e.Row = r then gA r (f ++ [jE e]) l else (r, f) :: gA e.Row [jE e] l := rfl

theorem RY (r : List aG) : ∀ (f2 f : List aA) (l : List aC), gA r f (gU r f2 ++ l) = gA r (f ++ f2) l
  | [], f, l => by simp [gU]
  | j :: f2, f, l => by
    show gA r f (⟨r, j.At, j.Net⟩ :: (gU r f2 ++ l)) = _
    rw [OX, if_pos rfl, RY r f2]
    simp [jE]

theorem QU : ∀ {gs : List (List aG × List aA)}, qF gs → Full gs → groups (flat gs) = gs
  | [], _, _ => rfl
  | (r, f) :: gs, hs, hf => by
    have hs' := List.pairwise_cons.1 hs
    have hne := hf (r, f) (by simp)
    have ih := QU hs'.2 (fun g hg => hf g (by simp [hg]))
    cases f with
    | nil => exact absurd rfl hne
    | cons j f =>
      rw [sQ]
      show gA r [jE ⟨r, j.At, j.Net⟩] (gU r f ++ flat gs) = _
      rw [RY]
      have key : ∀ (F : List aA), gA r F (flat gs) = (r, F) :: groups (flat gs) := by
        intro F
        cases gs with
        | nil => rfl
        | cons g gs =>
          obtain ⟨q, f'⟩ := g
          have hq := hf (q, f') (by simp)
          cases f' with
          | nil => exact absurd rfl hq
          | cons j' f' =>
            have hqr : q ≠ r := fun e => by
              have := hs'.1 (q, j' :: f') (by simp)
              simp only [ltG, e] at this; exact nC this
            rw [sQ]
            show gA r F (⟨q, j'.At, j'.Net⟩ :: (gU q f' ++ flat gs)) = _
            rw [gA, if_neg hqr]
            rfl
      rw [key, ih]
      rfl

def AX (gs : List (List aG × List aA)) : List (List aG × List aA) := gs.filter fun g => !g.2.isEmpty

theorem xZ : ∀ (gs : List (List aG × List aA)), flat (AX gs) = flat gs
  | [] => rfl
  | (r, []) :: gs => by
    have : AX ((r, []) :: gs) = AX gs := rfl
    rw [this, xZ gs, sQ]; rfl
  | (r, j :: f) :: gs => by
    have : AX ((r, j :: f) :: gs) = (r, j :: f) :: AX gs := rfl
    rw [this, sQ, sQ, xZ gs]

theorem QT (gs : List (List aG × List aA)) : Full (AX gs) := by
  intro g hg
  have := (List.mem_filter.1 hg).2
  intro h; rw [h] at this; simp at this

theorem zE {gs : List (List aG × List aA)} (hs : qF gs) : groups (flat gs) = AX gs := by
  rw [← xZ]
  exact QU (hs.filter _) (QT gs)

theorem aAc {gs : List (List aG × List aA)} (hs : qF gs) (r : List aG) : look (groups (flat gs)) r = look gs r := by
  have h1 := qE (gs := AX gs) (hs.filter _) r
  rw [zE hs, ← h1, ← qE hs, xZ]

theorem PJ {gs : List (List aG × List aA)} (hs : qF gs) (hm : ∀ g ∈ gs, nD g.1 = true ∧ dO g.2 = true) (hl : (flat gs).length ≤ 4096) : oU (flat gs) = true := by
  simp only [oU, Bool.and_eq_true, decide_eq_true_eq]
  refine ⟨hl, uQ.2 ?_⟩
  rw [zE hs]
  exact ⟨fun g hg => hm g (List.mem_filter.1 hg).1, hs.filter _, by simp⟩

def sL (by1 : List aA → List aA × Int) (gs : List (List aG × List aA)) : List (List aG × List aA) := gs.map fun g => (g.1, (by1 g.2).1)

theorem LN {by1 : List aA → List aA × Int} {gs : List (List aG × List aA)} (hs : qF gs) : qF (sL by1 gs) := by
  rw [qF, sL, List.pairwise_map]; exact hs

theorem IM {by1 : List aA → List aA × Int} (h0 : (by1 []).1 = []) : ∀ (gs : List (List aG × List aA)) (r : List aG), look (sL by1 gs) r = (by1 (look gs r)).1
  | [], r => h0.symm
  | g :: gs, r => by
    show look ((g.1, (by1 g.2).1) :: sL by1 gs) r = _
    rw [qZ, qZ]
    by_cases h : g.1 = r
    · rw [if_pos h, if_pos h]
    · rw [if_neg h, if_neg h]; exact IM h0 gs r

theorem OH {by1 : List aA → List aA × Int} : ∀ {gs : List (List aG × List aA)} {out : List aC}, out.length ≤ 4096 → (rO by1 gs out).2 = 0 → (∀ g ∈ gs, (by1 g.2).2 = 0) ∧ (rO by1 gs out).1 = out ++ flat (sL by1 gs) ∧ (rO by1 gs out).1.length ≤ 4096
  | [], out, ho, _ => by simp [rO, sL, flat, ho]
  | g :: gs, out, ho, h => by
    unfold rO at h ⊢
    by_cases e1 : (by1 g.2).2 = 0
    · rw [if_neg (by simp [e1])] at h ⊢
      by_cases e2 : 4096 < (out ++ gU g.1 (by1 g.2).1).length
      · rw [if_pos e2] at h; simp at h
      · rw [if_neg e2] at h ⊢
        obtain ⟨h1, h2, h3⟩ := OH (by omega) h
        refine ⟨?_, ?_, h3⟩
        · intro q hq
          rcases List.mem_cons.1 hq with rfl | hq
          · exact e1
          · exact h1 q hq
        · rw [h2]; simp [sL, sQ]
    · rw [if_pos e1] at h; exact absurd h e1

theorem FZ {by1 : List aA → List aA × Int} : ∀ {gs : List (List aG × List aA)} {out : List aC}, (∀ g ∈ gs, (by1 g.2).2 = 0) → (out ++ flat (sL by1 gs)).length ≤ 4096 → rO by1 gs out = (out ++ flat (sL by1 gs), 0)
  | [], out, _, _ => by simp [rO, sL, flat]
  | g :: gs, out, h, hl => by
    unfold rO
    have hf : flat (sL by1 (g :: gs)) = gU g.1 (by1 g.2).1 ++ flat (sL by1 gs) := rfl
    rw [hf] at hl ⊢
    rw [if_neg (by simp [h g (by simp)]), if_neg (by simp only [List.length_append] at hl ⊢; omega), FZ (fun q hq => h q (by simp [hq])) (by simpa using hl)]
    simp

theorem LU {by1 : List aA → List aA × Int} : ∀ {gs : List (List aG × List aA)} {out : List aC}, (rO by1 gs out).2 ≠ 0 → (rO by1 gs out).1 = []
  | [], out, h => by simp [rO] at h
  | g :: gs, out, h => by
    unfold rO at h ⊢
    split
    · rfl
    · rename_i e1
      rw [if_neg e1] at h
      split
      · rfl
      · rename_i e2
        rw [if_neg e2] at h
        exact LU h

def BA (by1 : List aA → List aA × Int) (l : List aC) : List aC × Int := if oU l then rO by1 (groups l) [] else ([], 2)

theorem DD {l : List aC} (hl : okL l) {g : List aG × List aA} (hg : g ∈ groups l) : g.1.length ≤ 4398046510976 := by
  obtain ⟨_, e, he, h⟩ := BK hg
  rw [h]; exact hl.2 e he

theorem all_eq {l : List aC} (hl : okL l) {by0 : List aA → Option (List aA × Int)} {by1 : List aA → List aA × Int} (hb : ∀ f, by0 f = some (by1 f)) (h1 : ∀ f, (by1 f).1.length ≤ 1024) : yP l by0 = some (BA by1 l) := by
  unfold yP BA
  rw [NW hl]
  cases h : oU l
  · rfl
  · simp only [Option.bind_some, Bool.not_true, cond_false, if_true]
    rw [PY hl (fun g hg => ⟨hb g.2, h1 g.2, DD hl hg⟩)]
    rfl

theorem aCG {by1 : List aA → List aA × Int} {l : List aC} (h : (BA by1 l).2 = 0) : oU l = true ∧ (∀ g ∈ groups l, (by1 g.2).2 = 0) ∧ (BA by1 l).1 = flat (sL by1 (groups l)) ∧ (BA by1 l).1.length ≤ 4096 := by
  unfold BA at h ⊢
  cases hm : oU l
  · rw [hm] at h; simp at h
  · rw [hm] at h
    simp only [if_true] at h ⊢
    obtain ⟨h1, h2, h3⟩ := OH (by simp) h
    exact ⟨trivial, h1, by simpa using h2, h3⟩

end Go.Abs
namespace Go.Abs
theorem aAK : @dN = @oH aC _ := rfl

theorem ZI : @dY = @eD aC _ := rfl

theorem TF (cmp) : ∀ k, @gJ cmp k = @eG aC _ cmp k
  | 0 => rfl
  | k + 1 => by
    show dY cmp _ = eD cmp _
    rw [TF cmp k, ZI]

theorem ZY : @eP = @pP aC _ := by
  funext d a m b cmp
  unfold eP pP
  simp only [TF]

theorem UA : @fI = @yA aC _ := by
  funext d n cmp
  unfold fI yA iH zU
  unfold iN mO fA zX
  unfold iL zS iG jZ
  unfold iP wS iA mQ
  unfold fD wO
  rw [ZY, aAK]
  rfl

end Go.Abs
namespace Go.Abs
open Go
theorem HV {l : List aC} {f : aC → Option Bool} {g : aC → Bool} (hl : l.length ≤ 1099511627776) (hf : ∀ x ∈ l, f x = some (g x)) : cT l f = some (l.any g) := by
  unfold cT fR fK
  obtain ⟨x, e, hx⟩ := CJ hl hf l 0 rfl (Nat.zero_le _)
  have e' : lp (fun s => fL f l (l.length : Nat) s) 0 = some x := e
  rw [e']
  rcases hx with ⟨rfl, h⟩ | ⟨i, rfl, _, _, h, _⟩
  · simp [dR, h]
  · simp [h]

def unE (e : aC) : Bool := ((!nD e.Row) || (decide ((1048576 : Int) < e.Net))) || (decide (e.Net < (-1048576 : Int)))

def DQ (e : aC) : Bool := (decide (e.At < (-1 : Int))) || (decide ((1125899906842624 : Int) < e.At))

def YO (x y : aC) : Int := if jH x.Row y.Row ≠ 0 then jH x.Row y.Row else rM x.At y.At

abbrev okE (x : aC) : Prop := nD x.Row = true

abbrev leE (x y : aC) : Prop := jH x.Row y.Row < 0 ∨ (x.Row = y.Row ∧ x.At ≤ y.At)

theorem or_eq (a b : Int) : vI [a, b] = some (if a ≠ 0 then a else b) := by
  unfold vI xQ
  have w1 : IntKind.i64.wrap (1 : Int) = 1 := by rw [gX] <;> omega
  have w2 : IntKind.i64.wrap (2 : Int) = 2 := by rw [gX] <;> omega
  have b0 : (fun s => gV 0 [a, b] (([a, b] : List Int).length : Nat) s) (0 : Int) = some (if a ≠ 0 then .inr (.inr a) else .inl 1) := by
    show gV _ _ _ _ = _
    unfold gV
    rw [bF ⟨by omega, by simp⟩]
    by_cases h : a = 0 <;> simp [h, w1]
  have b1 : (fun s => gV 0 [a, b] (([a, b] : List Int).length : Nat) s) (1 : Int) = some (if b ≠ 0 then .inr (.inr b) else .inl 2) := by
    show gV _ _ _ _ = _
    unfold gV
    rw [bF ⟨by omega, by simp⟩]
    by_cases h : b = 0 <;> simp [h, w2]
  have b2 : (fun s => gV 0 [a, b] (([a, b] : List Int).length : Nat) s) (2 : Int) = some (.inr (.inl ())) := by
    show gV _ _ _ _ = _
    unfold gV
    simp
  by_cases h : a = 0
  · rw [if_neg (by simp [h])] at b0
    rw [eT b0]
    by_cases h2 : b = 0
    · rw [if_neg (by simp [h2])] at b1
      rw [eT b1, cQ b2]
      simp [tP, h, h2]
    · rw [if_pos h2] at b1
      rw [cQ b1]
      simp [h]
  · rw [if_pos h] at b0
    rw [cQ b0]
    simp [h]

theorem aCo {x y : aC} (hx : okE x) (hy : okE y) : nM x y = some (YO x y) := by
  unfold nM YO
  rw [QI, hx, hy]
  simp only [Bool.and_self, if_true, Option.bind_some, QN, or_eq]

theorem aCb (x y : aC) : YO x y < 0 ↔ ¬ leE y x := by
  unfold YO leE
  have ha := jU.anti x.Row y.Row
  have hb := jU.anti y.Row x.Row
  have he := jU.eq x.Row y.Row
  by_cases h : jH x.Row y.Row = 0
  · rw [if_neg (by simp [h])]
    have e := he.1 h
    have : ¬ jH y.Row x.Row < 0 := by rw [e]; exact nC
    unfold rM
    constructor
    · intro h1 h2
      rcases h2 with h2 | ⟨_, h2⟩
      · exact this h2
      · split at h1
        · omega
        · split at h1 <;> omega
    · intro h1
      have : ¬ y.At ≤ x.At := fun h2 => h1 (.inr ⟨e.symm, h2⟩)
      rw [if_pos (by omega)]; omega
  · rw [if_pos h]
    have hne : y.Row ≠ x.Row := fun e => h (he.2 e.symm)
    constructor
    · intro h1 h2
      rcases h2 with h2 | ⟨h2, _⟩
      · have := hb.1 h2; omega
      · exact hne h2
    · intro h1
      have : ¬ jH y.Row x.Row < 0 := fun h2 => h1 (.inl h2)
      rw [hb] at this
      omega

theorem aA4 (x y : aC) : leE x y ∨ leE y x := by
  unfold leE
  by_cases h : jH x.Row y.Row = 0
  · have e := (jU.eq _ _).1 h
    rcases Int.le_total x.At y.At with h1 | h1
    · exact .inl (.inr ⟨e, h1⟩)
    · exact .inr (.inr ⟨e.symm, h1⟩)
  · by_cases h1 : jH x.Row y.Row < 0
    · exact .inl (.inl h1)
    · exact .inr (.inl ((jU.anti _ _).2 (by omega)))

theorem aAH {x y z : aC} (h1 : leE x y) (h2 : leE y z) : leE x z := by
  rcases h1 with h1 | ⟨e1, h1⟩ <;> rcases h2 with h2 | ⟨e2, h2⟩
  · exact .inl (jU.trans _ _ _ h1 h2)
  · exact .inl (e2 ▸ h1)
  · exact .inl (e1.symm ▸ h2)
  · exact .inr ⟨e1.trans e2, by omega⟩

theorem aDp : Cmp okE leE (fun y0 y1 => nM y0 y1) where
  ans x y hx hy := ⟨_, aCo hx hy, aCb x y⟩
  trans x y z _ _ _ h1 h2 := aAH h1 h2
  total x y _ _ := aA4 x y

theorem aDr {l : List aC} (hl : l.length ≤ 1099511627776) (ho : ∀ e ∈ l, okE e) : ∃ r, r.Perm l ∧ Srt leE r ∧ dD l (fun y0 y1 => nM y0 y1) = some r := by
  obtain ⟨r, r1, r2, r3⟩ := PI aDp (d := l) ho hl
  refine ⟨r, r1, r2, ?_⟩
  unfold dD
  rw [UA, r3]; rfl

theorem UL : ∀ {l : List aC} {r : List aG} {f : List aA}, Srt leE l → (∀ e ∈ l, e.Row = r ∨ jH r e.Row < 0) → qF (gA r f l) ∧ ∀ g ∈ gA r f l, g.1 = r ∨ jH r g.1 < 0
  | [], r, f, _, _ => by simp [gA]
  | e :: l, r, f, hs, hr => by
    have hs' := List.pairwise_cons.1 hs
    rw [OX]
    by_cases h : e.Row = r
    · rw [if_pos h]
      exact UL hs'.2 (fun x hx => hr x (by simp [hx]))
    · rw [if_neg h]
      have hlt : jH r e.Row < 0 := (hr e (by simp)).resolve_left h
      obtain ⟨h1, h2⟩ := UL (r := e.Row) (f := [jE e]) hs'.2 (fun x hx => by
        rcases hs'.1 x hx with h | ⟨h, _⟩
        · exact .inr h
        · exact .inl h.symm)
      have key : ∀ g ∈ gA e.Row [jE e] l, jH r g.1 < 0 := fun g hg => by
        rcases h2 g hg with h | h
        · rw [h]; exact hlt
        · exact jU.trans _ _ _ hlt h
      refine ⟨List.pairwise_cons.2 ⟨key, h1⟩, ?_⟩
      intro g hg
      rcases List.mem_cons.1 hg with rfl | hg
      · exact .inl rfl
      · exact .inr (key g hg)

theorem sU {l : List aC} (hs : Srt leE l) : qF (groups l) := by
  cases l with
  | nil => exact List.Pairwise.nil
  | cons e l =>
    have hs' := List.pairwise_cons.1 hs
    exact (UL hs'.2 (fun x hx => by
      rcases hs'.1 x hx with h | ⟨h, _⟩
      · exact .inr h
      · exact .inl h.symm)).1

abbrev FI (rs : List (List aG)) : Prop := rs.Pairwise fun a b => jH a b < 0

def CH (r : List aG) : List (List aG) → List (List aG)
  | [] => [r]
  | x :: xs => if jH x r < 0 then x :: CH r xs else if x = r then x :: xs else r :: x :: xs

def rowsOf (l : List aC) : List (List aG) := l.foldl (fun rs e => CH e.Row rs) []

theorem LH {r x : List aG} : ∀ {rs : List (List aG)}, x ∈ CH r rs ↔ x = r ∨ x ∈ rs
  | [] => by simp [CH]
  | y :: ys => by
    unfold CH
    split
    · simp only [List.mem_cons, LH (rs := ys)]
      constructor
      · rintro (h | h | h)
        · exact .inr (.inl h)
        · exact .inl h
        · exact .inr (.inr h)
      · rintro (h | h | h)
        · exact .inr (.inl h)
        · exact .inl h
        · exact .inr (.inr h)
    · split
      · rename_i h; subst h; simp
      · simp

theorem TZ {r : List aG} : ∀ {rs : List (List aG)}, FI rs → FI (CH r rs)
  | [], _ => by simp [CH]
  | y :: ys, hs => by
    have hs' := List.pairwise_cons.1 hs
    unfold CH
    split
    · rename_i h
      refine List.pairwise_cons.2 ⟨fun z hz => ?_, TZ hs'.2⟩
      rcases LH.1 hz with rfl | hz
      · exact h
      · exact hs'.1 z hz
    · rename_i h
      split
      · exact hs
      · rename_i hne
        have hlt : jH r y < 0 := by
          have h0 : jH y r ≠ 0 := fun e => hne ((jU.eq _ _).1 e)
          exact (jU.anti _ _).2 (by omega)
        refine List.pairwise_cons.2 ⟨fun z hz => ?_, hs⟩
        rcases List.mem_cons.1 hz with rfl | hz
        · exact hlt
        · exact jU.trans _ _ _ hlt (hs'.1 z hz)

theorem IZ : ∀ (l : List aC) (rs : List (List aG)), FI rs → FI (l.foldl (fun rs e => CH e.Row rs) rs) ∧ ∀ x, x ∈ l.foldl (fun rs e => CH e.Row rs) rs ↔ x ∈ rs ∨ ∃ e ∈ l, e.Row = x
  | [], rs, hs => ⟨hs, by simp⟩
  | e :: l, rs, hs => by
    obtain ⟨h1, h2⟩ := IZ l (CH e.Row rs) (TZ hs)
    refine ⟨h1, fun x => ?_⟩
    simp only [List.foldl_cons]
    rw [h2 x, LH]
    simp only [List.mem_cons, exists_eq_or_imp]
    constructor
    · rintro ((h | h) | h)
      · exact .inr (.inl h.symm)
      · exact .inl h
      · exact .inr (.inr h)
    · rintro (h | h | h)
      · exact .inl (.inr h)
      · exact .inl (.inl h.symm)
      · exact .inr h

theorem FK (l : List aC) : FI (rowsOf l) := (IZ l [] List.Pairwise.nil).1

theorem yU {l : List aC} {x : List aG} : x ∈ rowsOf l ↔ ∃ e ∈ l, e.Row = x := by
  have := (IZ l [] List.Pairwise.nil).2 x
  simpa [rowsOf] using this

theorem TI : ∀ {a b : List (List aG)}, FI a → FI b → (∀ x, x ∈ a ↔ x ∈ b) → a = b
  | [], [], _, _, _ => rfl
  | [], y :: ys, _, _, h => absurd ((h y).2 (by simp)) (by simp)
  | x :: xs, [], _, _, h => absurd ((h x).1 (by simp)) (by simp)
  | x :: xs, y :: ys, ha, hb, h => by
    have ha' := List.pairwise_cons.1 ha
    have hb' := List.pairwise_cons.1 hb
    have e : x = y := by
      rcases List.mem_cons.1 ((h x).1 (by simp)) with h1 | h1
      · exact h1
      · rcases List.mem_cons.1 ((h y).2 (by simp)) with h2 | h2
        · exact h2.symm
        · exact absurd (jU.trans _ _ _ (hb'.1 x h1) (ha'.1 y h2)) nC
    subst e
    rw [TI ha'.2 hb'.2 fun z => ?_]
    constructor
    · intro hz
      rcases List.mem_cons.1 ((h z).1 (by simp [hz])) with h1 | h1
      · subst h1; exact absurd (ha'.1 z hz) nC
      · exact h1
    · intro hz
      rcases List.mem_cons.1 ((h z).2 (by simp [hz])) with h1 | h1
      · subst h1; exact absurd (hb'.1 z hz) nC
      · exact h1

def uE (l : List aC) : List (List aG × List aA) := (rowsOf l).map fun r => (r, cB l r)

theorem KS (l : List aC) : qF (uE l) := by
  rw [qF, uE, List.pairwise_map]; exact FK l

theorem WG {l : List aC} {r : List aG} (h : ∀ e ∈ l, e.Row ≠ r) : cB l r = [] := by
  unfold cB
  rw [List.map_eq_nil_iff, List.filter_eq_nil_iff]
  intro e he
  simpa using h e he

theorem CX (l : List aC) (r : List aG) : look (uE l) r = cB l r := by
  rcases yY (uE l) r with ⟨h1, h2⟩ | ⟨g, hg, h1, h2⟩
  · rw [h1, WG]
    intro e he hr
    have : (r, cB l r) ∈ uE l := List.mem_map.2 ⟨r, yU.2 ⟨e, he, hr⟩, rfl⟩
    exact h2 _ this rfl
  · rw [h2]
    obtain ⟨q, _, rfl⟩ := List.mem_map.1 hg
    simp only at h1
    rw [h1]

theorem UE {a b : List aC} (h : a.Perm b) (r : List aG) : (cB a r).Perm (cB b r) := (h.filter _).map _

theorem KG {l l' : List aC} (hp : l'.Perm l) (hs : Srt leE l') : (groups l').map (·.1) = rowsOf l := by
  refine TI ?_ (FK l) fun x => ?_
  · rw [FI, List.pairwise_map]; exact sU hs
  · rw [yU]
    constructor
    · intro h
      obtain ⟨g, hg, rfl⟩ := List.mem_map.1 h
      obtain ⟨_, e, he, h1⟩ := BK hg
      exact ⟨e, hp.mem_iff.1 he, h1.symm⟩
    · rintro ⟨e, he, rfl⟩
      have he' : e ∈ flat (groups l') := by rw [rP]; exact hp.mem_iff.2 he
      obtain ⟨g, hg, h1⟩ := List.mem_flatMap.1 he'
      obtain ⟨j, _, rfl⟩ := List.mem_map.1 h1
      exact List.mem_map.2 ⟨g, hg, rfl⟩

theorem GR {l : List aA} (ht : ∀ j ∈ l, -2 < j.At) : Up (-2) (xD l) :=
  GV (by rw [List.map_map]; simpa [Function.comp_def] using ID ht)

theorem IX {l : List aA} (ht : ∀ j ∈ l, -2 < j.At) {t : Int} (h1 : -2 < t) (h2 : t < 1125899906842624) : val (xD l) t = val l t := by
  have h0 : val l (-2) = 0 := uN fun j hj => ht j hj
  have := HJ (F := val l) (ID ht) (fun s t' _ hst hlt hn => DL hst fun j hj hc => hn j.At (LB.2 (Or.inr ⟨j, List.mem_filter.2 ⟨hj, by simp; omega⟩, rfl⟩)) hc) t (by omega) h2
  rw [h0] at this
  unfold xD
  rw [this]; omega

theorem YK {f g : List aA} (h : f.Perm g) (hf : f.any zK = false) : xD f = xD g := by
  have hg : ∀ j ∈ g, -2 < j.At := fun j hj => (zP hf j (h.mem_iff.2 hj)).1
  exact KZ (fun j hj => (zP hf j hj).1) (GR hg) fun t h1 h2 => by rw [IX hg h1 h2, TV h]

theorem LK {f g : List aA} (h : f.Perm g) (p : aA → Bool) : f.any p = g.any p := by
  cases h1 : g.any p
  · rw [List.any_eq_false] at h1 ⊢
    exact fun x hx => h1 x (h.mem_iff.1 hx)
  · obtain ⟨x, hx, hp⟩ := List.any_eq_true.1 h1
    exact List.any_eq_true.2 ⟨x, h.mem_iff.2 hx, hp⟩

theorem YQ {f g : List aA} (h : f.Perm g) : jP f = jP g := by
  unfold jP
  rw [LK h tG, LK h zK]
  split
  · rfl
  · split
    · rfl
    · rename_i h2
      rw [YK h (by rw [LK h zK]; simpa using h2)]

theorem aAW (l : List aA) : (jP l).1.length ≤ 1024 := by
  unfold jP
  split
  · simp
  · split
    · simp
    · exact TG _

theorem ML {by1 : List aA → List aA × Int} : ∀ {gs hs : List (List aG × List aA)} {out : List aC}, gs.map (fun g => (g.1, by1 g.2)) = hs.map (fun g => (g.1, by1 g.2)) → rO by1 gs out = rO by1 hs out
  | [], [], _, _ => rfl
  | [], _ :: _, _, h => by simp at h
  | _ :: _, [], _, h => by simp at h
  | g :: gs, k :: hs, out, h => by
    simp only [List.map_cons, List.cons.injEq, Prod.mk.injEq] at h
    obtain ⟨⟨h1, h2⟩, h3⟩ := h
    unfold rO
    rw [h1, h2]
    split
    · rfl
    · split
      · rfl
      · exact ML h3

theorem WK {l l' : List aC} (hp : l'.Perm l) (hs : Srt leE l') : (groups l').map (fun g => (g.1, jP g.2)) = (uE l).map (fun g => (g.1, jP g.2)) := by
  have h1 : (groups l').map (fun g => (g.1, jP g.2)) = ((groups l').map (·.1)).map (fun r => (r, jP (cB l r))) := by
    rw [List.map_map]
    apply List.map_congr_left
    intro g hg
    have hj : g.2 = cB l' g.1 := by rw [← mW (sU hs), uR (sU hs) hg]
    simp only [Function.comp]
    rw [hj, YQ (UE hp g.1)]
  rw [h1, KG hp hs, uE, List.map_map]
  rfl

def lQ (l : List aC) : List aC × Int := if l.any unE then ([], 2) else if l.any DQ then ([], 13) else rO jP (uE l) []

theorem OA {l : List aC} (h : l.any unE = false) : ∀ e ∈ l, nD e.Row = true ∧ e.Net ≤ 1048576 ∧ -1048576 ≤ e.Net := by
  intro e he
  have := List.any_eq_false.1 h e he
  simp only [unE, Bool.or_eq_true, not_or, Bool.not_eq_true', decide_eq_true_eq, Bool.not_eq_false, Bool.not_eq_true] at this
  exact ⟨by simpa using this.1.1, by omega, by omega⟩

theorem aBh {l : List aC} (hl : okL l) (hn : l.length ≤ 1099511627776) : wK l = some (lQ l) := by
  unfold wK lQ
  rw [HV (g := unE) hn (fun x _ => by simp [tT, EC, unE])]
  simp only [Option.bind_some]
  cases h1 : l.any unE
  · rw [HV (f := fun y0 => tE y0) (g := DQ) hn (fun x _ => rfl)]
    simp only [cond_false, Option.bind_some, Bool.false_eq_true, if_false]
    cases h2 : l.any DQ
    · simp only [cond_false, Bool.false_eq_true, if_false]
      have hc : fC l = some l := by unfold fC; exact bF ⟨by omega, by omega⟩
      obtain ⟨r, r1, r2, r3⟩ := aDr hn (fun e he => (OA h1 e he).1)
      rw [hc]
      simp only [Option.bind_some]
      rw [r3]
      simp only [Option.bind_some]
      have hr : okL r := ⟨by rw [r1.length_eq]; exact hl.1, fun e he => hl.2 e (r1.mem_iff.1 he)⟩
      rw [PY hr (by1 := jP) (fun g hg => ⟨by
        unfold tO
        have hgl : g.2.length ≤ 1099511627776 := by
          have h3 : g.2 = cB r g.1 := by rw [← mW (sU r2), uR (sU r2) hg]
          rw [h3, cB, List.length_map]
          exact Nat.le_trans (List.length_filter_le _ _) (by rw [r1.length_eq]; exact hn)
        rw [norm_eq hgl]; rfl, aAW _, DD hr hg⟩)]
      simp only [Option.bind_some]
      rw [ML (WK r1 r2)]
    · simp
  · simp

theorem QO : jP [] = ([], 0) := rfl

theorem FL {l : List aC} (h : (lQ l).2 = 0) : l.any unE = false ∧ l.any DQ = false ∧ (∀ g ∈ uE l, (jP g.2).2 = 0) ∧ (lQ l).1 = flat (sL jP (uE l)) ∧ (lQ l).1.length ≤ 4096 := by
  unfold lQ at h ⊢
  cases h1 : l.any unE
  · rw [h1] at h
    simp only [Bool.false_eq_true, if_false] at h ⊢
    cases h2 : l.any DQ
    · rw [h2] at h
      simp only [Bool.false_eq_true, if_false] at h ⊢
      obtain ⟨a, b, c⟩ := OH (by simp) h
      exact ⟨trivial, trivial, a, by simpa using b, c⟩
    · rw [h2] at h; simp at h
  · rw [h1] at h; simp at h

theorem YM {l : List aC} (h : (lQ l).2 = 0) (r : List aG) : look (groups (lQ l).1) r = (jP (cB l r)).1 := by
  obtain ⟨_, _, _, h4, _⟩ := FL h
  rw [h4, aAc (LN (KS l)), IM (by rw [QO]), CX]

theorem KV {f : List aA} (h : (jP f).2 = 0) : f.any tG = false ∧ f.any zK = false ∧ dO (xD f) = true ∧ jP f = (xD f, 0) := by
  unfold jP at h ⊢
  cases h1 : f.any tG
  · rw [h1] at h
    simp only [Bool.false_eq_true, if_false] at h ⊢
    cases h2 : f.any zK
    · rw [h2] at h
      simp only [Bool.false_eq_true, if_false] at h ⊢
      unfold told at h ⊢
      cases h3 : dO (xD f)
      · rw [h3] at h; simp at h
      · simp
    · rw [h2] at h; simp at h
  · rw [h1] at h; simp at h

theorem PV {l : List aC} (h : (lQ l).2 = 0) (r : List aG) : (jP (cB l r)).2 = 0 := by
  obtain ⟨_, _, h3, _, _⟩ := FL h
  rcases yY (uE l) r with ⟨e, _⟩ | ⟨g, hg, _, e⟩
  · rw [CX] at e; rw [e]; rfl
  · rw [CX] at e; rw [e]; exact h3 g hg

theorem QJ {l : List aC} (h : (lQ l).2 = 0) : oU (lQ l).1 = true := by
  obtain ⟨h1, _, h3, h4, h5⟩ := FL h
  rw [h4] at h5 ⊢
  refine PJ (LN (KS l)) (fun g hg => ?_) h5
  obtain ⟨q, hq, rfl⟩ := List.mem_map.1 hg
  have h6 := KV (h3 q hq)
  obtain ⟨r, hr, rfl⟩ := List.mem_map.1 hq
  obtain ⟨e, he, rfl⟩ := yU.1 hr
  exact ⟨(OA h1 e he).1, by rw [h6.2.2.2]; exact h6.2.2.1⟩

theorem XZ {l : List aC} (h : (lQ l).2 ≠ 0) : (lQ l).1 = [] := by
  unfold lQ at h ⊢
  split
  · rfl
  · rename_i h1
    rw [if_neg h1] at h
    split
    · rfl
    · rename_i h2
      rw [if_neg h2] at h
      exact LU h

end Go.Abs
namespace Go.Abs
open Go
def RX (s : aR) : Bool := (decide (0 ≤ s.From) && decide (s.From ≤ 1125899906842624)) && (decide (0 ≤ s.To) && decide (s.To ≤ 1125899906842624)) && decide (s.From < s.To)

theorem YX (s : aR) : zC s = some (RX s) := by
  unfold zC wG RX
  simp only [Option.bind_some]
  cases h : (decide (0 ≤ s.From) && decide (s.From ≤ 1125899906842624)) <;> simp [cV]

end Go.Abs
namespace Go.Abs
open Go
theorem EV : okL [] := ⟨by simp, by simp⟩

theorem TJ {gs : List (List aG × List aA)} (h : ∀ g ∈ gs, g.1.length ≤ 4398046510976) (hl : (flat gs).length ≤ 4096) : okL (flat gs) := by
  refine ⟨by omega, fun e he => ?_⟩
  obtain ⟨g, hg, h1⟩ := List.mem_flatMap.1 he
  obtain ⟨j, _, rfl⟩ := List.mem_map.1 h1
  exact h g hg

theorem aBS {by1 : List aA → List aA × Int} {l : List aC} (hl : okL l) : okL (BA by1 l).1 := by
  by_cases h : (BA by1 l).2 = 0
  · obtain ⟨_, _, h3, h4⟩ := aCG h
    rw [h3] at h4 ⊢
    refine TJ (fun g hg => ?_) h4
    obtain ⟨q, hq, rfl⟩ := List.mem_map.1 hg
    have := DD hl hq
    exact this
  · unfold BA at h ⊢
    split
    · rename_i hm
      rw [if_pos hm] at h
      rw [LU h]; exact EV
    · exact EV

theorem aAh {l : List aC} (hl : okL l) : okL (lQ l).1 := by
  by_cases h : (lQ l).2 = 0
  · obtain ⟨_, _, _, h4, h5⟩ := FL h
    rw [h4] at h5 ⊢
    refine TJ (fun g hg => ?_) h5
    obtain ⟨q, hq, rfl⟩ := List.mem_map.1 hg
    obtain ⟨r, hr, rfl⟩ := List.mem_map.1 hq
    obtain ⟨e, he, rfl⟩ := yU.1 hr
    exact hl.2 e he
  · rw [XZ h]; exact EV

def AO (l : List aC) (t : Int) : List aC × Int := BA (fun f => ahead f t) l

theorem YB {l : List aC} (hl : okL l) (t : Int) : okL (AO l t).1 := aBS hl

theorem aAd {l : List aC} (hl : okL l) (t : Int) : vH l t = some (AO l t) := by
  unfold vH AO
  rw [all_eq hl (by0 := fun y0 => pS y0 t) (by1 := fun f => ahead f t) (fun f => by unfold pS; rw [aBu]; rfl) (fun f => aAA f t)]
  rfl

end Go.Abs
namespace Go.Abs
open Go
theorem JT {σ : Type} {y : σ → List aG → List aA → Option (σ × Bool)} (c : List aC) : ∀ (gs : List (List aG × List aA)) (s s' : σ), itG y gs s = some s' →
    ∃ x, itG (fun st t10 t11 => rnd (fun (s : σ) => jW y c s t10 t11) st) gs (.inl s) = some x ∧ Sum.elim id id x = s'
  | [], s, s', h => by simp only [itG, Option.some.injEq] at h; exact ⟨_, rfl, h⟩
  | g :: gs, s, s', h => by
    simp only [itG] at h
    obtain ⟨z, hz, h⟩ := aU h
    have hl : jW y c s g.1 g.2 = some (if z.2 then .inl z.1 else .inr z.1) := by
      unfold jW
      rw [hz]
      obtain ⟨z1, z2⟩ := z
      cases z2 <;> rfl
    cases h2 : z.2
    · rw [h2] at h hl
      simp only [Bool.false_eq_true, if_false, Option.some.injEq] at h hl
      refine ⟨.inr z.1, ?_, h⟩
      simp [itG, rnd, hl]
    · rw [h2] at h hl
      simp only [if_true] at h hl
      obtain ⟨x, h3, h4⟩ := JT c gs z.1 s' h
      refine ⟨x, ?_, h4⟩
      simp only [itG, rnd, hl, Option.bind_some, Sum.isLeft_inl, if_true]
      exact h3

theorem MV {σ : Type} {y : σ → List aG → List aA → Option (σ × Bool)} {l : List aC} (hl : okL l) {s s' : σ} (h : itG y (if oU l then groups l else []) s = some s') : nF y l s = some s' := by
  unfold nF
  rw [NW hl]
  cases hm : oU l
  · rw [hm] at h
    simp only [Bool.false_eq_true, if_false, itG] at h
    simpa using h
  · rw [hm] at h
    simp only [if_true] at h
    simp only [Option.bind_some, Bool.not_true, cond_false, pN, rD]
    obtain ⟨x, h1, h2⟩ := JT l (groups l) s s' h
    rw [PA hl h1]
    cases x <;> simpa using h2

theorem aA6 (r : List aG) (f : List aA) : (gU r f).length = f.length := by simp [gU]

theorem aBI {l a : List aC} (hu : l.any unE = false) (ho : l.any DQ = false) (ma : oU a = true) (h : ∀ r, jP (cB l r) = (cB a r, 0)) : lQ l = (a, 0) := by
  obtain ⟨h1, _, h3⟩ := oD ma
  have hs := LN (by1 := jP) (KS l)
  have hf : flat (sL jP (uE l)) = a := by
    rw [← xZ]
    conv => rhs; rw [← rP a]
    rw [XK (gs := AX (sL jP (uE l))) (hs := groups a) (hs.filter _) h3 (QT _) (JZ a) fun r => ?_]
    have h4 := qE (gs := AX (sL jP (uE l))) (hs.filter _) r
    rw [← h4, xZ, qE hs, IM (by rw [QO]), CX, h r, mW h3]
  unfold lQ
  rw [if_neg (by simp [hu]), if_neg (by simp [ho]), FZ (fun g hg => ?_) (by simpa [hf] using h1), hf]
  · rfl
  · obtain ⟨r, _, rfl⟩ := List.mem_map.1 hg
    simp only
    rw [h r]

theorem YP {l : List aC} (hm : oU l = true) {e : aC} (he : e ∈ l) : nD e.Row = true ∧ -2 < e.At ∧ e.At < 1125899906842624 ∧ e.Net ≠ 0 ∧ e.Net ≤ 1048576 ∧ -1048576 ≤ e.Net := by
  obtain ⟨_, h2, _⟩ := oD hm
  have he' : e ∈ flat (groups l) := by rw [rP]; exact he
  obtain ⟨g, hg, h1⟩ := List.mem_flatMap.1 he'
  obtain ⟨j, hj, rfl⟩ := List.mem_map.1 h1
  obtain ⟨a, b⟩ := h2 g hg
  exact ⟨a, (dV.1 b).2.above j hj⟩

theorem MB {l : List aC} (hm : oU l = true) (r : List aG) : dO (cB l r) = true := by
  rw [← mW (oD hm).2.2]; exact aA2 hm r

theorem aBm {f h : List aA} (h1 : f.any tG = false) (h2 : f.any zK = false) (hh : dO h = true) (hv : ∀ t, -2 < t → t < 1125899906842624 → val h t = val f t) : jP f = (h, 0) := by
  unfold jP
  rw [if_neg (by simp [h1]), if_neg (by simp [h2]), KZ (fun j hj => (zP h2 j hj).1) (aCX hh) hv]
  unfold told
  rw [if_pos hh]

end Go.Abs
namespace Go.Abs
open Go
theorem RC {l : List aC} (h1 : l.any unE = false) (h2 : l.any DQ = false) (r : List aG) : (cB l r).any tG = false ∧ (cB l r).any zK = false := by
  constructor
  · refine List.any_eq_false.2 fun j hj => ?_
    obtain ⟨e, he, rfl⟩ := List.mem_map.1 hj
    have := OA h1 e (List.mem_filter.1 he).1
    have h3 : (jE e).Net = e.Net := rfl
    simp only [tG, FW, h3, Bool.not_eq_true', Bool.and_eq_false_iff, decide_eq_false_iff_not, not_or, Decidable.not_not, Bool.not_eq_false, Bool.and_eq_true, decide_eq_true_eq]
    omega
  · refine List.any_eq_false.2 fun j hj => ?_
    obtain ⟨e, he, rfl⟩ := List.mem_map.1 hj
    have := List.any_eq_false.1 h2 e (List.mem_filter.1 he).1
    have h3 : (jE e).At = e.At := rfl
    simp only [DQ, Bool.or_eq_true, decide_eq_true_eq, not_or] at this
    simp only [zK, h3, Bool.or_eq_true, decide_eq_true_eq]
    omega

end Go.Abs
namespace Go.Abs
open Go
abbrev ltE (x y : aC) : Prop := jH x.Row y.Row < 0 ∨ (x.Row = y.Row ∧ x.At < y.At)

theorem CV : ∀ {f : List aA} {last : Int}, kO last f ↔ (∀ j ∈ f, FD last j = false) ∧ f.Pairwise fun a b => a.At < b.At
  | [], last => by simp [kO]
  | j :: f, last => by
    rw [List.pairwise_cons]
    unfold kO
    rw [← pK]
    constructor
    · rintro ⟨h1, h2⟩
      have h3 := CV.1 h2
      have h4 := pK.1 h1
      refine ⟨fun k hk => ?_, fun k hk => (pK.1 (h3.1 k hk)).1, h3.2⟩
      rcases List.mem_cons.1 hk with rfl | hk
      · exact h1
      · have := pK.1 (h3.1 k hk)
        exact pK.2 (by omega)
    · rintro ⟨h1, h2, h3⟩
      refine ⟨h1 j (by simp), CV.2 ⟨fun k hk => ?_, h3⟩⟩
      have := pK.1 (h1 k (by simp [hk]))
      have := h2 k hk
      exact pK.2 (by omega)

theorem TQ {l : List aC} : oU l = true ↔ l.length ≤ 4096 ∧ (∀ e ∈ l, nD e.Row = true ∧ FD (-2) (jE e) = false) ∧ l.Pairwise ltE ∧ ∀ r ∈ rowsOf l, (cB l r).length ≤ 1024 := by
  constructor
  · intro h
    obtain ⟨h1, h2, h3⟩ := oD h
    refine ⟨h1, fun e he => ?_, ?_, fun r _ => (dV.1 (MB h r)).1⟩
    · obtain ⟨a, b, c, d, e1, e2⟩ := YP h he
      exact ⟨a, pK.2 ⟨b, c, d, e1, e2⟩⟩
    · rw [← rP l]
      unfold flat
      rw [List.flatMap, List.pairwise_flatten, List.pairwise_map]
      constructor
      · intro x hx
        obtain ⟨g, hg, rfl⟩ := List.mem_map.1 hx
        have := (CV.1 (dV.1 (h2 g hg).2).2).2
        rw [gU, List.pairwise_map]
        exact this.imp fun h => .inr ⟨rfl, h⟩
      · refine h3.imp fun {a b} h x hx y hy => ?_
        obtain ⟨j, _, rfl⟩ := List.mem_map.1 hx
        obtain ⟨k, _, rfl⟩ := List.mem_map.1 hy
        exact .inl h
  · rintro ⟨h1, h2, h3, h4⟩
    have hs : Srt leE l := h3.imp fun h => by
      rcases h with h | ⟨h, h'⟩
      · exact .inl h
      · exact .inr ⟨h, by omega⟩
    have hg := sU hs
    unfold oU
    rw [Bool.and_eq_true]
    refine ⟨by simpa using h1, uQ.2 ⟨fun g hg' => ?_, hg, fun q hq => by cases hq⟩⟩
    obtain ⟨_, e, he, h5⟩ := BK hg'
    have hj : g.2 = cB l g.1 := by rw [← mW hg, uR hg hg']
    refine ⟨by rw [h5]; exact (h2 e he).1, ?_⟩
    rw [hj]
    refine dV.2 ⟨h4 _ (yU.2 ⟨e, he, h5.symm⟩), CV.2 ⟨fun j hj => ?_, ?_⟩⟩
    · obtain ⟨e, he, rfl⟩ := List.mem_map.1 hj
      exact (h2 e (List.mem_filter.1 he).1).2
    · unfold cB
      rw [List.pairwise_map, List.pairwise_filter]
      refine h3.imp fun {a b} h ha hb => ?_
      rcases h with h | ⟨_, h⟩
      · simp only [decide_eq_true_eq] at ha hb
        rw [ha, hb] at h
        exact absurd h nC
      · exact h

end Go.Abs
namespace Go.Abs
open Go
theorem XW {c : Int} : ∀ {l : List Int} {m : Int}, c ≤ l.foldl mn m ↔ c ≤ m ∧ ∀ x ∈ l, c ≤ x
  | [], m => by simp
  | a :: l, m => by
    rw [List.foldl_cons, XW]
    unfold mn
    constructor
    · rintro ⟨h1, h2⟩
      have h3 : c ≤ m ∧ c ≤ a := by split at h1 <;> omega
      refine ⟨h3.1, fun x hx => ?_⟩
      rcases List.mem_cons.1 hx with rfl | hx
      · exact h3.2
      · exact h2 x hx
    · rintro ⟨h1, h2⟩
      have := h2 a (by simp)
      exact ⟨by split <;> omega, fun x hx => h2 x (by simp [hx])⟩

theorem QG {t : Int} : ∀ {f : List aA} {l v : Int}, kO l f → v + val f t = v ∨ v + val f t ∈ parts v f
  | [], l, v, _ => .inl (by simp [val])
  | j :: r, l, v, h => by
    unfold parts
    rw [cA]
    by_cases e : j.At ≤ t
    · rw [if_pos e]
      right
      rcases QG (t := t) (v := v + j.Net) h.2 with h1 | h1
      · rw [show v + (j.Net + val r t) = v + j.Net by omega]; simp
      · rw [show v + (j.Net + val r t) = v + j.Net + val r t by omega]; exact List.mem_cons_of_mem _ h1
    · left
      rw [if_neg e, h.2.uA (by omega)]; omega

theorem PX {f : List aA} (hf : dO f = true) : 0 ≤ ES f ↔ ∀ t, 0 ≤ val f t := by
  have hr := (dV.1 hf).2
  unfold ES
  rw [XW]
  constructor
  · rintro ⟨_, h2⟩ t
    rcases QG (t := t) (v := 0) hr with h | h
    · omega
    · rw [parts_eq hr] at h
      obtain ⟨j, hj, h⟩ := List.mem_map.1 h
      have := h2 _ (List.mem_map.2 ⟨j, hj, rfl⟩)
      omega
  · intro h
    refine ⟨h _, fun x hx => ?_⟩
    obtain ⟨j, _, rfl⟩ := List.mem_map.1 hx
    exact h _

theorem mU {l : List aC} : pE l = true ↔ oU l = true ∧ ∀ r t, 0 ≤ val (cB l r) t := by
  constructor
  · intro h
    unfold pE at h
    rw [Bool.and_eq_true, uQ] at h
    obtain ⟨h1, h2, h3, _⟩ := h
    have hm : oU l = true := by
      unfold oU
      rw [Bool.and_eq_true]
      exact ⟨h1, uQ.2 ⟨fun g hg => ⟨(h2 g hg).1, by have := (h2 g hg).2; unfold NU at this; rw [Bool.and_eq_true] at this; exact this.1⟩, h3, fun q hq => by cases hq⟩⟩
    refine ⟨hm, fun r => ?_⟩
    rw [← mW h3]
    rcases yY (groups l) r with ⟨e, _⟩ | ⟨g, hg, _, e⟩
    · rw [e]; intro t; simp [val]
    · rw [e]
      have := (h2 g hg).2
      unfold NU at this
      rw [Bool.and_eq_true, decide_eq_true_eq] at this
      exact (PX this.1).1 this.2
  · rintro ⟨hm, h⟩
    obtain ⟨h1, h2, h3⟩ := oD hm
    unfold pE
    rw [Bool.and_eq_true]
    refine ⟨by simpa using h1, uQ.2 ⟨fun g hg => ⟨(h2 g hg).1, ?_⟩, h3, fun q hq => by cases hq⟩⟩
    unfold NU
    rw [Bool.and_eq_true, decide_eq_true_eq]
    refine ⟨(h2 g hg).2, (PX (h2 g hg).2).2 ?_⟩
    have : g.2 = cB l g.1 := by rw [← mW h3, uR h3 hg]
    rw [this]; exact h g.1

theorem aAw {f : List aA} (hu : Up (-2) f) (h : ∀ t, -2 < t → t < 1125899906842624 → 0 ≤ val f t) : ∀ t, 0 ≤ val f t := by
  intro t
  by_cases h1 : -2 < t
  · by_cases h2 : t < 1125899906842624
    · exact h t h1 h2
    · have := DL (s := 1125899906842623) (t := t) (by omega) (f := f) (fun j hj => by have := (hu.above j hj); omega)
      rw [← this]; exact h _ (by omega) (by omega)
  · rw [hu.uA (by omega)]; omega

theorem JX {l : List aC} (h : (lQ l).2 = 0) (r : List aG) : cB (lQ l).1 r = xD (cB l r) := by
  rw [← mW (oD (QJ h)).2.2, YM h, (KV (PV h r)).2.2.2]

theorem BX {l : List aC} (h : (lQ l).2 = 0) (r : List aG) : ∀ j ∈ cB l r, -2 < j.At :=
  fun j hj => (zP (KV (PV h r)).2.1 j hj).1

theorem VJ {l : List aC} (h : (lQ l).2 = 0) (hv : ∀ r t, -2 < t → t < 1125899906842624 → 0 ≤ val (cB l r) t) : pE (lQ l).1 = true := by
  refine mU.2 ⟨QJ h, fun r => ?_⟩
  rw [JX h]
  refine aAw (GR (BX h r)) fun t h1 h2 => ?_
  rw [IX (BX h r) h1 h2]; exact hv r t h1 h2

end Go.Abs
namespace Go.Abs
open Go
theorem VL {l : List aC} (hm : oU l = true) : uE l = groups l := by
  obtain ⟨_, _, hp, _⟩ := TQ.1 hm
  have hs : Srt leE l := hp.imp fun h => by
    rcases h with h | ⟨h, h'⟩
    · exact .inl h
    · exact .inr ⟨h, by omega⟩
  have hg := sU hs
  unfold uE
  rw [← KG (List.Perm.refl l) hs, List.map_map]
  conv => rhs; rw [← List.map_id (groups l)]
  refine List.map_congr_left fun g hg' => ?_
  simp only [Function.comp, id]
  rw [← mW hg, uR hg hg']

end Go.Abs
namespace Go.Abs
open Go
def eJ (f : List aA) : List Int := f.flatMap fun j => List.replicate j.Net.toNat j.At

def ends (f : List aA) : List Int := f.flatMap fun j => List.replicate (-j.Net).toNat j.At

def cY (f : List aA) : Int := (f.map fun j => if 0 < j.Net then j.Net else 0).sum

def pairs (d : Int) : List Int → List Int → List aR
  | [], _ => []
  | b :: bs, [] => ⟨b, d⟩ :: pairs d bs []
  | b :: bs, e :: es => ⟨b, e⟩ :: pairs d bs es

theorem jD (j : aA) (f : List aA) : eJ (j :: f) = List.replicate j.Net.toNat j.At ++ eJ f := rfl

theorem rG (j : aA) (f : List aA) : ends (j :: f) = List.replicate (-j.Net).toNat j.At ++ ends f := rfl

theorem AW (f g : List aA) : eJ (f ++ g) = eJ f ++ eJ g := by simp [eJ]

theorem DR (f g : List aA) : ends (f ++ g) = ends f ++ ends g := by simp [ends]

theorem pJ (j : aA) (f : List aA) : cY (j :: f) = (if 0 < j.Net then j.Net else 0) + cY f := by simp [cY]

theorem IF (f g : List aA) : cY (f ++ g) = cY f + cY g := by simp [cY]

theorem mY : ∀ f : List aA, 0 ≤ cY f
  | [] => by simp [cY]
  | j :: f => by rw [pJ]; have := mY f; split <;> omega

theorem yV : ∀ f : List aA, cY f = ((eJ f).length : Nat)
  | [] => rfl
  | j :: f => by
    rw [pJ, jD, List.length_append, List.length_replicate, yV f]
    split <;> omega

theorem uY (d : Int) : ∀ (B E : List Int), (pairs d B E).length = B.length
  | [], _ => rfl
  | _ :: bs, [] => by simp [pairs, uY d bs []]
  | _ :: bs, _ :: es => by simp [pairs, uY d bs es]

theorem FG (d t : Int) : ∀ (B E : List Int), E.length ≤ B.length → pairs d (B ++ [t]) E = pairs d B E ++ [⟨t, d⟩]
  | [], [], _ => rfl
  | [], _ :: _, h => by simp at h
  | b :: bs, [], _ => by simp only [List.cons_append, pairs, FG d t bs [] (by simp)]
  | b :: bs, e :: es, h => by simp only [List.cons_append, pairs, FG d t bs es (by simpa using h)]

theorem QS (d t : Int) : ∀ (B E : List Int), E.length < B.length → (pairs d B E).set E.length ⟨((pairs d B E).getD E.length default).From, t⟩ = pairs d B (E ++ [t])
  | [], _, h => by simp at h
  | b :: bs, [], _ => by simp [pairs]
  | b :: bs, e :: es, h => by
    have := QS d t bs es (by simpa using h)
    simp only [pairs, List.length_cons, List.set_cons_succ, List.cons_append, List.getD_cons_succ]
    rw [this]

theorem FJ (d d' : Int) : ∀ (B E : List Int), B.length ≤ E.length → pairs d B E = pairs d' B E
  | [], _, _ => rfl
  | _ :: _, [], h => by simp at h
  | b :: bs, e :: es, h => by simp only [pairs, FJ d d' bs es (by simpa using h)]

theorem zF (d d' : Int) : ∀ (B E : List Int), pairs d' B E = pairs d B (E ++ List.replicate (B.length - E.length) d')
  | [], E => by simp [pairs]
  | b :: bs, [] => by
    have := zF d d' bs []
    simp only [List.nil_append, List.length_nil, Nat.sub_zero, List.length_cons, List.replicate_succ, pairs] at this ⊢
    rw [this]
  | b :: bs, e :: es => by
    have := zF d d' bs es
    simp only [List.cons_append, List.length_cons, Nat.add_sub_add_right, pairs]
    rw [this]

def uF (v : Int) : List aA → Prop
  | [] => True
  | j :: r => 0 ≤ v + j.Net ∧ uF (v + j.Net) r

theorem JU : ∀ {f : List aA} {v : Int}, (∀ x ∈ parts v f, 0 ≤ x) → uF v f
  | [], _, _ => trivial
  | j :: r, v, h => ⟨h _ (by simp [parts]), JU fun x hx => h x (by simp [parts, hx])⟩

theorem rA {f : List aA} (hf : dO f = true) (h : ∀ t, 0 ≤ val f t) : uF 0 f := by
  refine JU fun x hx => ?_
  rw [parts_eq (dV.1 hf).2] at hx
  obtain ⟨j, _, rfl⟩ := List.mem_map.1 hx
  have := h j.At
  omega

theorem aCy {f : List aA} (hf : ∀ j ∈ f, j.Net ≤ 1048576 ∧ -1048576 ≤ j.Net) (hl : f.length ≤ 1099511627776) : rN f = some (cY f) := by
  unfold rN yZ
  rw [xY (l := f) (body := fun s : Int × Int => oP f (f.length : Nat) s.1 s.2) (fun v i => (v, i)) (fun v r => v + cY r)
    (fun v r => (∀ j ∈ r, j.Net ≤ 1048576 ∧ -1048576 ≤ j.Net) ∧ 0 ≤ v ∧ v ≤ 1048576 * (1099511627776 - r.length) ∧ r.length ≤ 1099511627776) 0 ?_ ?_ ⟨hf, by omega, by omega, hl⟩]
  · simp [vB]
  · rintro i a r v ha ⟨h1, h2, h3, h4⟩
    have hlt := (List.getElem?_eq_some_iff.1 ha).1
    obtain ⟨d1, d2, d3, d4⟩ := idx ha (by omega)
    have hj := h1 a (List.mem_cons_self ..)
    simp only [List.length_cons] at h3 h4
    have hif : (if (0 : Int) > a.Net then 0 else a.Net) = (if 0 < a.Net then a.Net else 0) := by split <;> split <;> omega
    have hb : 0 ≤ (if 0 < a.Net then a.Net else 0) ∧ (if 0 < a.Net then a.Net else 0) ≤ 1048576 := by split <;> omega
    have hw : IntKind.i64.wrap (v + (if 0 < a.Net then a.Net else 0)) = v + (if 0 < a.Net then a.Net else 0) := gX (by omega) (by omega)
    left
    refine ⟨v + (if 0 < a.Net then a.Net else 0), ?_, ⟨fun j hj => h1 j (List.mem_cons_of_mem _ hj), by omega, by omega, by omega⟩, by rw [pJ]; omega⟩
    show oP _ _ _ _ = _
    simp only [oP, d1, cond_true, bF d2, d3, d4, hif, hw]
  · rintro v _
    show oP _ _ _ _ = _
    simp only [oP, jO, cond_false]
    simp [cY]

theorem XQ {f : List aA} (hf : dO f = true) : rN f = some (cY f) := aCy (GU hf) (by have := (dV.1 hf).1; omega)

theorem VH {f : List aA} (hf : ∀ j ∈ f, j.Net ≤ 1048576) : cY f ≤ 1048576 * f.length := by
  induction f with
  | nil => simp [cY]
  | cons j f ih =>
    rw [pJ, List.length_cons]
    have := ih fun k hk => hf k (by simp [hk])
    have := hf j (by simp)
    split <;> omega

theorem aAo {B E : List Int} {t : Int} (h : E.length < B.length) (hB : B.length ≤ 1000000) : mE t (pairs 0 B E) (E.length : Nat) = some (pairs 0 B (E ++ [t]), ((E.length + 1 : Nat) : Int)) := by
  unfold mE
  rw [bF ⟨by omega, by rw [uY]; omega⟩, Int.toNat_natCast, QS 0 t B E h, gX (by omega) (by omega)]
  rfl

theorem UJ {f : List aA} {i : Int} {j : aA} {E : List Int} (t13 : Int) (hN : j.Net ≤ 4294967296) : ∀ (n : Nat) (k : Nat) (B : List Int), E.length ≤ B.length → j.Net.toNat = k + n → B.length + n ≤ 1000000 →
    lp (fun s : List aR × Int × aA × Int => lX f t13 i j.Net s.1 s.2.1 s.2.2.1 s.2.2.2) (pairs 0 B E, ((E.length : Nat) : Int), j, (k : Int)) = some (pairs 0 (B ++ List.replicate n j.At) E, ((E.length : Nat) : Int), j)
  | 0, k, B, _, hk, _ => by
    refine cQ ?_
    show lX _ _ _ _ _ _ _ _ = _
    have : decide ((k : Int) < j.Net) = false := by simp; omega
    simp only [lX, this, cond_false, List.replicate_zero, List.append_nil]
  | n + 1, k, B, hE, hk, hB => by
    have h1 : decide ((k : Int) < j.Net) = true := by simp; omega
    have hb : (fun s : List aR × Int × aA × Int => lX f t13 i j.Net s.1 s.2.1 s.2.2.1 s.2.2.2) (pairs 0 B E, ((E.length : Nat) : Int), j, (k : Int)) = some (.inl (pairs 0 (B ++ [j.At]) E, ((E.length : Nat) : Int), j, ((k + 1 : Nat) : Int))) := by
      show lX _ _ _ _ _ _ _ _ = _
      simp only [lX, h1, cond_true]
      rw [bF (by rw [uY]; simp only [List.length_cons, List.length_nil]; omega), FG 0 j.At B E hE, gX (by omega) (by omega)]
      rfl
    rw [eT hb, UJ t13 hN n (k + 1) (B ++ [j.At]) (by simp; omega) (by omega) (by simp; omega), List.append_assoc, List.replicate_succ]
    rfl

theorem ZX {f : List aA} {i : Int} {j : aA} {B : List Int} (t13 : Int) (hB : B.length ≤ 1000000) (hN : -4294967296 ≤ j.Net) : ∀ (n : Nat) (k : Nat) (E : List Int), (-j.Net).toNat = k + n → E.length + n ≤ B.length →
    lp (fun s : List aR × Int × aA × Int => lY f t13 i (-j.Net) s.1 s.2.1 s.2.2.1 s.2.2.2) (pairs 0 B E, ((E.length : Nat) : Int), j, (k : Int)) = some (pairs 0 B (E ++ List.replicate n j.At), ((E.length + n : Nat) : Int))
  | 0, k, E, hk, _ => by
    refine cQ ?_
    show lY _ _ _ _ _ _ _ _ = _
    have : decide ((k : Int) < -j.Net) = false := by simp; omega
    simp only [lY, this, cond_false, List.replicate_zero, List.append_nil, Nat.add_zero]
  | n + 1, k, E, hk, hE => by
    have h1 : decide ((k : Int) < -j.Net) = true := by simp; omega
    have hb : (fun s : List aR × Int × aA × Int => lY f t13 i (-j.Net) s.1 s.2.1 s.2.2.1 s.2.2.2) (pairs 0 B E, ((E.length : Nat) : Int), j, (k : Int)) = some (.inl (pairs 0 B (E ++ [j.At]), (((E ++ [j.At]).length : Nat) : Int), j, ((k + 1 : Nat) : Int))) := by
      show lY _ _ _ _ _ _ _ _ = _
      simp only [lY, h1, cond_true, aAo (show E.length < B.length by omega) hB, Option.bind_some]
      rw [gX (by omega) (by omega)]
      simp
    rw [eT hb, ZX t13 hB hN n (k + 1) (E ++ [j.At]) (by omega) (by simp; omega), List.append_assoc, List.replicate_succ]
    have : (E ++ [j.At]).length + n = E.length + (n + 1) := by simp; omega
    rw [this]
    rfl

theorem XH {B : List Int} (hB : B.length ≤ 1000000) : ∀ (n : Nat) (E : List Int), E.length + n = B.length →
    lp (fun s : List aR × Int => lW s.1 s.2) (pairs 0 B E, ((E.length : Nat) : Int)) = some (pairs 1125899906842624 B E)
  | 0, E, h => by
    refine cQ ?_
    show lW _ _ = _
    have : decide (((E.length : Nat) : Int) < (((pairs 0 B E).length : Nat) : Int)) = false := by simp [uY]; omega
    simp only [lW, this, cond_false]
    rw [FJ 0 1125899906842624 B E (by omega)]
  | n + 1, E, h => by
    have h1 : decide (((E.length : Nat) : Int) < (((pairs 0 B E).length : Nat) : Int)) = true := by simp [uY]; omega
    have hb : (fun s : List aR × Int => lW s.1 s.2) (pairs 0 B E, ((E.length : Nat) : Int)) = some (.inl (pairs 0 B (E ++ [1125899906842624]), (((E ++ [1125899906842624]).length : Nat) : Int))) := by
      show lW _ _ = _
      simp only [lW, h1, cond_true, aAo (show E.length < B.length by omega) hB, Option.bind_some]
      simp
    rw [eT hb, XH hB n (E ++ [1125899906842624]) (by simp; omega)]
    rw [zF 1125899906842624 1125899906842624 B E, zF 1125899906842624 1125899906842624 B (E ++ [1125899906842624])]
    have : B.length - E.length = B.length - (E ++ [(1125899906842624 : Int)]).length + 1 := by simp; omega
    rw [this, List.replicate_succ, List.append_assoc]
    rfl

def mS (f : List aA) : List aR := pairs 1125899906842624 (eJ f) (ends f)

theorem GM : ∀ {f : List aA} {v : Int}, uF v f → ((ends f).length : Int) ≤ v + (eJ f).length ∨ f = []
  | [], _, _ => .inr rfl
  | j :: r, v, h => by
    left
    rw [rG, jD, List.length_append, List.length_append, List.length_replicate, List.length_replicate]
    rcases GM h.2 with h1 | h1
    · omega
    · subst h1
      have := h.1
      simp [eJ, ends]
      omega

theorem aBU {f : List aA} (hf : dO f = true) (hn : ∀ t, 0 ≤ val f t) (hm : cY f ≤ 1000000) : uW f = some (mS f) := by
  have hok := rA hf hn
  have hlen := (dV.1 hf).1
  have hb0 := yV f
  unfold uW
  rw [XQ hf]
  simp only [Option.bind_some]
  have h0 := mY f
  rw [bF ⟨h0, by omega, by omega⟩]
  unfold xN
  have key := xY (l := f) (body := fun s : List aR × Int × Int => nO f (f.length : Nat) s.1 s.2.1 s.2.2) (fun (s : List Int × List Int) i => (pairs 0 s.1 s.2, ((s.2.length : Nat) : Int), i)) (fun s r => (pairs 0 (s.1 ++ eJ r) (s.2 ++ ends r), (((s.2 ++ ends r).length : Nat) : Int)))
    (fun s r => s.2.length ≤ s.1.length ∧ uF ((s.1.length : Int) - s.2.length) r ∧ s.1.length + (eJ r).length ≤ 1000000 ∧ ∀ j ∈ r, j.Net ≤ 1048576 ∧ -1048576 ≤ j.Net) ([], []) ?_ ?_ ⟨by simp, by simpa using hok, by simp; omega, GU hf⟩
  · simp only [pairs, List.length_nil, Int.natCast_zero, List.nil_append] at key
    rw [key]
    simp only [Option.bind_some, tS, xK]
    have he : (ends f).length ≤ (eJ f).length := by
      rcases GM hok with h | h
      · omega
      · subst h; simp [ends]
    rw [XH (by omega) ((eJ f).length - (ends f).length) (ends f) (by omega)]
    rfl
  · rintro i j r ⟨B, E⟩ ha ⟨h1, h2, h3, h4⟩
    left
    simp only at h1 h2 h3
    obtain ⟨d1, d2, d3, d4⟩ := idx ha (by omega)
    have hj := h4 j (by simp)
    have hv := h2.1
    rw [jD, List.length_append, List.length_replicate] at h3
    have hw : IntKind.i64.wrap (0 - j.Net) = -j.Net := by rw [gX (by omega) (by omega)]; omega
    refine ⟨(B ++ List.replicate j.Net.toNat j.At, E ++ List.replicate (-j.Net).toNat j.At), ?_, ⟨by simp; omega, ?_, by simp; omega, fun k hk => h4 k (by simp [hk])⟩, ?_⟩
    · show nO _ _ _ _ _ = _
      simp only [nO, d1, cond_true, bF d2, d3, xG]
      have b1 := UJ (f := f) (i := (i : Int)) (j := j) (E := E) (f.length : Nat) (by omega) j.Net.toNat 0 B h1 (by omega) (by omega)
      have e1 := ZX (f := f) (i := (i : Int)) (j := j) (B := B ++ List.replicate j.Net.toNat j.At) (f.length : Nat) (by simp; omega) (by omega) (-j.Net).toNat 0 E (by omega) (by simp; omega)
      simp only [Int.natCast_zero] at b1 e1
      rw [b1]
      simp only [Option.bind_some, tH, hw, xC]
      rw [e1]
      simp only [Option.bind_some, tN, d4]
      simp
    · have : (((B ++ List.replicate j.Net.toNat j.At).length : Nat) : Int) - (((E ++ List.replicate (-j.Net).toNat j.At).length : Nat) : Int) = (B.length : Int) - E.length + j.Net := by simp; omega
      simp only
      rw [this]; exact h2.2
    · simp only [jD, rG, List.append_assoc]
  · rintro ⟨B, E⟩ _
    show nO _ _ _ _ _ = _
    simp only [nO, jO, cond_false]
    simp [eJ, ends]

end Go.Abs
namespace Go.Abs
open Go
def fU (r : List aG) (ss : List aR) : List aI := ss.map fun s => ⟨r, s⟩

def dU (gs : List (List aG × List aA)) : List aI := gs.flatMap fun g => fU g.1 (mS g.2)

def gZ (gs : List (List aG × List aA)) : Int := (gs.map fun g => cY g.2).sum

theorem qY (g : List aG × List aA) (gs : List (List aG × List aA)) : dU (g :: gs) = fU g.1 (mS g.2) ++ dU gs := rfl

theorem vX (g : List aG × List aA) (gs : List (List aG × List aA)) : gZ (g :: gs) = cY g.2 + gZ gs := by simp [gZ]

theorem yR : ∀ gs : List (List aG × List aA), 0 ≤ gZ gs
  | [] => by simp [gZ]
  | g :: gs => by rw [vX]; have := yR gs; have := mY g.2; omega

theorem MM (f : List aA) : ((mS f).length : Int) = cY f := by rw [mS, uY, yV]

theorem sP : ∀ gs : List (List aG × List aA), ((dU gs).length : Int) = gZ gs
  | [] => rfl
  | g :: gs => by
    rw [qY, vX, List.length_append, ← sP gs, ← MM]
    simp [fU]

def sK (l : List aC) : List aI × Int := if !oU l then ([], 2) else if !pE l then ([], 20) else if decide (4096 < gZ (groups l)) then ([], 7) else (dU (groups l), 0)

theorem SY (l0 c : List aC) : ∀ (gs : List (List aG × List aA)) (n : Int), (∀ g ∈ gs, dO g.2 = true) → 0 ≤ n → n + 1073741824 * gs.length ≤ 4611686018427387904 →
    itG (fun st t22 t23 => rnd (fun (s : Int) => oG l0 c s t22 t23) st) gs (.inl n) = some (.inl (n + gZ gs))
  | [], n, _, _, _ => by simp [itG, gZ]
  | g :: gs, n, hg, hn, hb => by
    have hm := hg g (by simp)
    have h0 := mY g.2
    have h1 := VH (f := g.2) fun j hj => (GU hm j hj).1
    have h2 := (dV.1 hm).1
    simp only [List.length_cons] at hb
    have hw : IntKind.i64.wrap (n + cY g.2) = n + cY g.2 := gX (by omega) (by omega)
    have hl : oG l0 c n g.1 g.2 = some (.inl (n + cY g.2)) := by
      unfold oG
      rw [XQ hm]
      simp only [Option.bind_some, hw]
    simp only [itG, rnd, hl, Option.bind_some, Sum.isLeft_inl, if_true]
    have := SY l0 c gs (n + cY g.2) (fun q hq => hg q (by simp [hq])) (by omega) (by omega)
    simp only [rnd] at this
    rw [this, vX, Int.add_assoc]

theorem aCI {r : List aG} (hr : r.length ≤ 4398046510976) (ss : List aR) (out : List aI) (h : out.length + ss.length ≤ 1000000) : sG out r ss ((ss.length : Nat) : Int) 0 = some (.inl (out ++ fU r ss)) := by
  unfold sG
  rw [xY (l := ss) (body := fun s : List aI × Int => mI r ss (ss.length : Nat) s.1 s.2) (fun o i => (o, i)) (fun o t => o ++ fU r t) (fun o t => o.length + t.length ≤ 1000000) out ?_ ?_ h]
  · rfl
  · intro i a t o ha hi
    left
    obtain ⟨d1, d2, d3, d4⟩ := idx ha (by omega)
    simp only [List.length_cons] at hi
    refine ⟨o ++ [⟨r, a⟩], ?_, by simp; omega, by simp [fU]⟩
    show mI _ _ _ _ _ = _
    simp only [mI, d1, cond_true, bF d2, d3, d4, zA hr, Option.bind_some]
    exact bF (by simp only [List.length_cons, List.length_nil]; omega)
  · intro o _
    show mI _ _ _ _ _ = _
    simp only [mI, jO, cond_false]
    simp [fU]

theorem PM (c : List aC) : ∀ (gs : List (List aG × List aA)) (out : List aI), (∀ g ∈ gs, dO g.2 = true ∧ (∀ t, 0 ≤ val g.2 t) ∧ g.1.length ≤ 4398046510976) → out.length + gZ gs ≤ 1000000 →
    itG (fun st t34 t35 => rnd (fun (s : List aI) => nY c s t34 t35) st) gs (.inl out) = some (.inl (out ++ dU gs))
  | [], out, _, _ => by simp [itG, dU]
  | g :: gs, out, hg, hb => by
    obtain ⟨hm, hn, hr⟩ := hg g (by simp)
    have h0 := mY g.2
    have h1 := yR gs
    rw [vX] at hb
    have hs := MM g.2
    have hl : nY c out g.1 g.2 = some (.inl (out ++ fU g.1 (mS g.2))) := by
      unfold nY
      rw [aBU hm hn (by omega)]
      simp only [Option.bind_some]
      rw [aCI hr _ _ (by omega)]
    simp only [itG, rnd, hl, Option.bind_some, Sum.isLeft_inl, if_true]
    have := PM c gs (out ++ fU g.1 (mS g.2)) (fun q hq => hg q (by simp [hq])) (by simp only [List.length_append, fU, List.length_map]; omega)
    simp only [rnd] at this
    rw [this, qY, List.append_assoc]

theorem BC : ∀ (l : List aC) (r : List aG) (f : List aA), (gA r f l).length ≤ l.length + 1
  | [], _, _ => by simp [gA]
  | e :: l, r, f => by
    rw [OX]
    split
    · have := BC l r (f ++ [jE e]); simp only [List.length_cons]; omega
    · have := BC l e.Row [jE e]; simp only [List.length_cons]; omega

theorem ZK (l : List aC) : (groups l).length ≤ l.length := by
  cases l with
  | nil => simp [groups]
  | cons e l => exact BC l e.Row [jE e]

theorem qA {l : List aC} (ht : pE l = true) {g : List aG × List aA} (hg : g ∈ groups l) : dO g.2 = true ∧ ∀ t, 0 ≤ val g.2 t := by
  obtain ⟨hm, hv⟩ := mU.1 ht
  obtain ⟨_, h2, h3⟩ := oD hm
  have : g.2 = cB l g.1 := by rw [← mW h3, uR h3 hg]
  exact ⟨(h2 g hg).2, by rw [this]; exact hv g.1⟩

theorem QX {l : List aC} (hl : okL l) : qO l = some (sK l) := by
  unfold qO sK
  rw [NW hl]
  cases hm : oU l
  · simp
  · simp only [Option.bind_some, Bool.not_true, cond_false, aAS hl, Bool.false_eq_true, if_false]
    cases ht : pE l
    · simp
    · have hn := (oD hm).1
      have hgl := ZK l
      have h0 := yR (groups l)
      simp only [Bool.not_true, cond_false, Bool.false_eq_true, if_false, qR, Option.bind_some, vS]
      have hc := SY l l (groups l) 0 (fun g hg => (qA ht hg).1) (by omega) (by omega)
      rw [MV hl (s' := .inl (0 + gZ (groups l))) (by rw [hm]; simpa using hc)]
      simp only [Option.bind_some, Sum.elim_inl, Int.zero_add]
      by_cases h7 : 4096 < gZ (groups l)
      · simp [h7]
      · simp only [h7, decide_false, cond_false, Bool.false_eq_true, if_false]
        rw [bF ⟨h0, by omega, by omega⟩]
        unfold sJ
        have hp := PM l (groups l) [] (fun g hg => ⟨(qA ht hg).1, (qA ht hg).2, DD hl hg⟩) (by simp; omega)
        rw [MV hl (s' := .inl ([] ++ dU (groups l))) (by rw [hm]; simpa using hp)]
        rfl

def MP (s : aR) : Bool := RX s || ((decide (s.From = -1) && decide (0 ≤ s.To)) && decide (s.To ≤ 1125899906842624))

def oO (p : aI) : Bool := nD p.Row && MP p.Span

theorem WU (p : aI) : sX p = some (oO p) := by
  unfold sX oO
  rw [EC]
  cases h : nD p.Row
  · simp [cV]
  · simp only [cV, cond_true, Option.bind_some, AA, YX, MP, Bool.true_and]

theorem AQ {s : aR} : MP s = true ↔ -1 ≤ s.From ∧ s.From < s.To ∧ 0 ≤ s.To ∧ s.To ≤ 1125899906842624 := by
  unfold MP RX
  simp only [Bool.or_eq_true, Bool.and_eq_true, decide_eq_true_eq]
  omega

def okP (l : List aI) : Prop := l.length ≤ 3518437208783 ∧ ∀ e ∈ l, e.Row.length ≤ 4398046510976

theorem SO {l : List aI} {f : aI → Option Bool} {g : aI → Bool} (hl : l.length ≤ 1099511627776) (hf : ∀ x ∈ l, f x = some (g x)) : dA l f = some (l.any g) := by
  unfold dA fE eX
  obtain ⟨x, e, hx⟩ := CJ hl hf l 0 rfl (Nat.zero_le _)
  have e' : lp (fun s => eV f l (l.length : Nat) s) 0 = some x := e
  rw [e']
  rcases hx with ⟨rfl, h⟩ | ⟨i, rfl, _, _, h, _⟩
  · simp [dH, h]
  · simp [h]

def peL (l : List aI) : List aC := l.flatMap fun p => [⟨p.Row, p.Span.From, 1⟩, ⟨p.Row, p.Span.To, -1⟩]

theorem CA (p : aI) (l : List aI) : peL (p :: l) = [⟨p.Row, p.Span.From, 1⟩, ⟨p.Row, p.Span.To, -1⟩] ++ peL l := rfl

theorem ZG (a b : List aI) : peL (a ++ b) = peL a ++ peL b := by simp [peL]

theorem NX : ∀ l : List aI, (peL l).length = 2 * l.length
  | [] => rfl
  | p :: l => by rw [CA, List.length_append, NX l]; simp; omega

theorem WY {l : List aI} (hl : okP l) (h : l.length ≤ 1000000) : okL (peL l) :=
  ⟨by rw [NX]; omega, fun e he => by
    obtain ⟨p, hp, h1⟩ := List.mem_flatMap.1 he
    have := hl.2 p hp
    simp only [List.mem_cons, List.not_mem_nil, or_false] at h1
    rcases h1 with rfl | rfl <;> exact this⟩

def dZ (l : List aI) : List aC × Int := if l.any (fun p => !oO p) then ([], 2) else if decide (4096 < l.length) then ([], 7) else lQ (peL l)

theorem QK {l : List aI} (hl : okP l) (hn : l.length ≤ 1099511627776) : sE l = some (dZ l) := by
  unfold sE dZ
  rw [SO (g := fun p => !oO p) hn (fun p _ => by simp [sH, WU])]
  simp only [Option.bind_some]
  cases h1 : l.any fun p => !oO p
  · simp only [cond_false, Bool.false_eq_true, if_false]
    by_cases h2 : 4096 < l.length
    · have h2' : (4096 : Int) < ((l.length : Nat) : Int) := by omega
      simp [h2, h2']
    · have h2' : ¬ (4096 : Int) < ((l.length : Nat) : Int) := by omega
      simp only [h2, h2', decide_false, cond_false, Bool.false_eq_true, if_false]
      have hw : IntKind.i64.wrap ((2 : Int) * ((l.length : Nat) : Int)) = 2 * ((l.length : Nat) : Int) := gX (by omega) (by omega)
      rw [hw, bF ⟨by omega, by omega, by omega⟩]
      unfold xL
      rw [xY (l := l) (body := fun s : List aC × Int => nQ l (l.length : Nat) s.1 s.2) (fun o i => (o, i)) (fun o t => o ++ peL t) (fun o t => o.length + 2 * t.length ≤ 1000000) [] ?_ ?_ (by simp; omega)]
      · simp only [Option.bind_some, List.nil_append, tR]
        rw [aBh (WY hl (by omega)) (by rw [NX]; omega)]
        rfl
      · intro i a t o ha hi
        left
        obtain ⟨d1, d2, d3, d4⟩ := idx ha (by omega)
        simp only [List.length_cons] at hi
        refine ⟨o ++ [⟨a.Row, a.Span.From, 1⟩, ⟨a.Row, a.Span.To, -1⟩], ?_, by simp; omega, by rw [CA]; simp⟩
        show nQ _ _ _ _ = _
        simp only [nQ, d1, cond_true, bF d2, d3, d4]
        exact bF (by simp only [List.length_cons, List.length_nil]; omega)
      · intro o _
        show nQ _ _ _ _ = _
        simp only [nQ, jO, cond_false]
        simp [peL]
  · simp

def jL (l : List aI) : List aI × Int := if (dZ l).2 ≠ 0 then ([], (dZ l).2) else sK (dZ l).1

theorem NA {l : List aI} (hl : okP l) : okL (dZ l).1 := by
  unfold dZ
  split
  · exact EV
  · split
    · exact EV
    · rename_i h
      exact aAh (WY hl (by simp at h; omega))

theorem CI {l : List aI} (hl : okP l) (hn : l.length ≤ 1099511627776) : oL l = some (jL l) := by
  unfold oL jL
  rw [QK hl hn]
  simp only [Option.bind_some]
  by_cases h : (dZ l).2 = 0
  · simp only [h, decide_true, Bool.not_true, cond_false, QX (NA hl), Option.bind_some, ne_eq, not_true_eq_false, if_false]
  · simp [h]

end Go.Abs
namespace Go.Abs
open Go
theorem NO {l : List aC} (h : oU l = true) (r : List aG) : look (groups l) r = cB l r := mW (oD h).2.2 r

end Go.Abs
namespace Go.Abs
open Go
def cnt (t : Int) (l : List Int) : Int := (l.map fun x => if x ≤ t then 1 else 0).sum

theorem FB (t x : Int) (l : List Int) : cnt t (x :: l) = (if x ≤ t then 1 else 0) + cnt t l := by simp [cnt]

theorem MO (t : Int) (a b : List Int) : cnt t (a ++ b) = cnt t a + cnt t b := by simp [cnt]

theorem AU (t x : Int) : ∀ n : Nat, cnt t (List.replicate n x) = if x ≤ t then (n : Int) else 0
  | 0 => by simp [cnt]
  | n + 1 => by rw [List.replicate_succ, FB, AU t x n]; split <;> omega

theorem WX (t : Int) : ∀ f : List aA, val f t = cnt t (eJ f) - cnt t (ends f)
  | [] => rfl
  | j :: f => by
    rw [cA, jD, rG, MO, MO, AU, AU, WX t f]
    split <;> omega

def spJ (ss : List aR) : List aA := ss.flatMap fun s => [⟨s.From, 1⟩, ⟨s.To, -1⟩]

theorem TU (s : aR) (ss : List aR) : spJ (s :: ss) = [⟨s.From, 1⟩, ⟨s.To, -1⟩] ++ spJ ss := rfl

theorem IG (s : aR) (ss : List aR) (t : Int) : val (spJ (s :: ss)) t = (if s.From ≤ t then 1 else 0) - (if s.To ≤ t then 1 else 0) + val (spJ ss) t := by
  rw [TU, oJ, cA, cA, nE]
  simp only
  split <;> split <;> omega

theorem JB {d t : Int} (ht : t < d) : ∀ (B E : List Int), E.length ≤ B.length → val (spJ (pairs d B E)) t = cnt t B - cnt t E
  | [], [], _ => rfl
  | [], _ :: _, h => by simp at h
  | b :: bs, [], _ => by
    rw [pairs, IG, JB ht bs [] (by simp), FB]
    have : ¬ d ≤ t := by omega
    simp only [this, if_false, cnt, List.map_nil, List.sum_nil]
    omega
  | b :: bs, e :: es, h => by
    rw [pairs, IG, JB ht bs es (by simpa using h), FB, FB]
    simp only
    omega

theorem JG {f : List aA} (h : uF 0 f) : (ends f).length ≤ (eJ f).length := by
  rcases GM h with h | h
  · omega
  · subst h; simp [ends]

theorem aAL {f : List aA} (h : uF 0 f) {t : Int} (ht : t < 1125899906842624) : val (spJ (mS f)) t = val f t := by
  rw [mS, JB ht _ _ (JG h), WX]

theorem KP (d e : Int) : ∀ (n : Nat) (Q B E : List Int), Q.length = n → pairs d (Q ++ B) (List.replicate n e ++ E) = Q.map (fun b => ⟨b, e⟩) ++ pairs d B E
  | 0, Q, B, E, h => by
    have : Q = [] := List.length_eq_zero_iff.1 h
    subst this; simp
  | n + 1, [], B, E, h => by simp at h
  | n + 1, q :: Q, B, E, h => by
    simp only [List.cons_append, List.replicate_succ, pairs, List.map_cons, KP d e n Q B E (by simpa using h)]

theorem LC {d : Int} : ∀ {f : List aA} {last : Int} {Q : List Int}, kO last f → uF (Q.length : Int) f → (∀ q ∈ Q, q ≤ last) → (∀ q ∈ Q, q < d) → (∀ j ∈ f, j.At < d) → ∀ s ∈ pairs d (Q ++ eJ f) (ends f), s.From < s.To ∧ s.To ≤ d ∧ (s.From ∈ Q ∨ s.From ∈ eJ f)
  | [], last, Q, _, _, hq, hd, _, s, hs => by
    simp only [eJ, ends, List.flatMap_nil, List.append_nil] at hs ⊢
    have key : ∀ Q : List Int, (∀ q ∈ Q, q < d) → ∀ s ∈ pairs d Q [], s.From < s.To ∧ s.To ≤ d ∧ s.From ∈ Q := by
      intro Q
      induction Q with
      | nil => intro _ s hs; simp [pairs] at hs
      | cons q Q ih =>
        intro hd s hs
        rw [pairs] at hs
        rcases List.mem_cons.1 hs with rfl | hs
        · exact ⟨hd q (by simp), Int.le_refl _, by simp⟩
        · obtain ⟨h1, h2, h3⟩ := ih (fun x hx => hd x (by simp [hx])) s hs
          exact ⟨h1, h2, by simp [h3]⟩
    obtain ⟨h1, h2, h3⟩ := key Q hd s hs
    exact ⟨h1, h2, .inl h3⟩
  | j :: r, last, Q, hr, hv, hq, hd, hf, s, hs => by
    have hj := hr.1
    have hjd := hf j (by simp)
    by_cases hn : 0 < j.Net
    · have h0 : (-j.Net).toNat = 0 := by omega
      rw [jD, rG, h0, List.replicate_zero, List.nil_append, ← List.append_assoc] at hs
      obtain ⟨h1, h2, h3⟩ := LC (d := d) (Q := Q ++ List.replicate j.Net.toNat j.At) hr.2 (by
          have := hv.2
          rw [show (((Q ++ List.replicate j.Net.toNat j.At).length : Nat) : Int) = (Q.length : Int) + j.Net by simp; omega]
          exact this) (fun q hq' => by
          rcases List.mem_append.1 hq' with h | h
          · have := hq q h; omega
          · rw [(List.mem_replicate.1 h).2]; exact Int.le_refl _) (fun q hq' => by
          rcases List.mem_append.1 hq' with h | h
          · exact hd q h
          · rw [(List.mem_replicate.1 h).2]; exact hjd) (fun k hk => hf k (by simp [hk])) s hs
      refine ⟨h1, h2, ?_⟩
      rw [jD, List.mem_append]
      rcases h3 with h3 | h3
      · rcases List.mem_append.1 h3 with h | h
        · exact .inl h
        · exact .inr (.inl h)
      · exact .inr (.inr h3)
    · have h0 : j.Net.toNat = 0 := by omega
      have hlen : (-j.Net).toNat ≤ Q.length := by have := hv.1; omega
      rw [jD, rG, h0, List.replicate_zero, List.nil_append] at hs
      have hQ : Q = Q.take (-j.Net).toNat ++ Q.drop (-j.Net).toNat := (List.take_append_drop _ _).symm
      rw [hQ, List.append_assoc, KP d j.At _ _ _ _ (by simp; omega)] at hs
      rcases List.mem_append.1 hs with hs | hs
      · obtain ⟨q, hq', rfl⟩ := List.mem_map.1 hs
        have hm := List.mem_of_mem_take hq'
        have := hq q hm
        exact ⟨by simp only; omega, by simp only; omega, .inl hm⟩
      · obtain ⟨h1, h2, h3⟩ := LC (d := d) (Q := Q.drop (-j.Net).toNat) hr.2 (by
            have := hv.2
            rw [show (((Q.drop (-j.Net).toNat).length : Nat) : Int) = (Q.length : Int) + j.Net by simp; omega]
            exact this) (fun q hq' => by have := hq q (List.mem_of_mem_drop hq'); omega) (fun q hq' => hd q (List.mem_of_mem_drop hq')) (fun k hk => hf k (by simp [hk])) s hs
        refine ⟨h1, h2, ?_⟩
        rw [jD, h0, List.replicate_zero, List.nil_append]
        rcases h3 with h3 | h3
        · exact .inl (List.mem_of_mem_drop h3)
        · exact .inr h3

theorem VR {f : List aA} (hf : dO f = true) (h : ∀ t, 0 ≤ val f t) {s : aR} (hs : s ∈ mS f) : MP s = true := by
  have hp := YN hf
  obtain ⟨h1, h2, h3⟩ := LC (d := 1125899906842624) (Q := []) (dV.1 hf).2 (by simpa using rA hf h) (by simp) (by simp) (fun j hj => (hp j hj).2) s (by simpa [mS] using hs)
  rcases h3 with h3 | h3
  · simp at h3
  · obtain ⟨j, hj, h4⟩ := List.mem_flatMap.1 h3
    have e := (List.mem_replicate.1 h4).2
    have := hp j hj
    exact AQ.2 (by omega)

theorem RE (q r : List aG) (ss : List aR) : cB (peL (fU q ss)) r = if q = r then spJ ss else [] := by
  induction ss with
  | nil => simp [fU, peL, spJ, cB]
  | cons s ss ih =>
    have : fU q (s :: ss) = ⟨q, s⟩ :: fU q ss := rfl
    rw [this, CA, pV, ih]
    by_cases e : q = r
    · simp only [e, if_true, TU]
      simp [cB, jE]
    · simp [e, cB]

theorem PN {r : List aG} {t : Int} (ht : t < 1125899906842624) : ∀ {gs : List (List aG × List aA)}, qF gs → (∀ g ∈ gs, uF 0 g.2) → val (cB (peL (dU gs)) r) t = val (look gs r) t
  | [], _, _ => rfl
  | g :: gs, hs, hg => by
    have hs' := List.pairwise_cons.1 hs
    rw [qY, ZG, pV, oJ, RE, qZ, PN ht hs'.2 fun q hq => hg q (by simp [hq])]
    by_cases e : g.1 = r
    · rw [if_pos e, if_pos e, aAL (hg g (by simp)) ht, uZ fun q hq => ?_, nE, Int.add_zero]
      intro h
      have this : jH g.1 q.1 < 0 := hs'.1 q hq
      rw [h, ← e] at this
      exact nC this
    · rw [if_neg e, if_neg e, nE, Int.zero_add]

theorem aAa {gs : List (List aG × List aA)} {p : aI} (h : p ∈ dU gs) : ∃ g ∈ gs, p.Row = g.1 ∧ p.Span ∈ mS g.2 := by
  obtain ⟨g, hg, h1⟩ := List.mem_flatMap.1 h
  obtain ⟨s, hs, rfl⟩ := List.mem_map.1 h1
  exact ⟨g, hg, rfl, hs⟩

theorem DB {x : List aC} (ht : pE x = true) {p : aI} (h : p ∈ dU (groups x)) : oO p = true := by
  obtain ⟨g, hg, h1, h2⟩ := aAa h
  obtain ⟨a, b⟩ := qA ht hg
  unfold oO
  rw [h1, ((oD (mU.1 ht).1).2.1 g hg).1, VR a b h2]; rfl

theorem aCF {l : List aI} {e : aC} (h : e ∈ peL l) : ∃ p ∈ l, e = ⟨p.Row, p.Span.From, 1⟩ ∨ e = ⟨p.Row, p.Span.To, -1⟩ := by
  obtain ⟨p, hp, h1⟩ := List.mem_flatMap.1 h
  exact ⟨p, hp, by simpa using h1⟩

theorem aCZ {l : List aI} (h : ∀ p ∈ l, oO p = true) : (peL l).any unE = false ∧ (peL l).any DQ = false := by
  have key : ∀ e ∈ peL l, nD e.Row = true ∧ (e.Net = 1 ∨ e.Net = -1) ∧ -1 ≤ e.At ∧ e.At ≤ 1125899906842624 := by
    intro e he
    obtain ⟨p, hp, h1⟩ := aCF he
    have hm := h p hp
    unfold oO at hm
    rw [Bool.and_eq_true, AQ] at hm
    rcases h1 with rfl | rfl
    · exact ⟨hm.1, .inl rfl, by simp only; omega, by simp only; omega⟩
    · exact ⟨hm.1, .inr rfl, by simp only; omega, by simp only; omega⟩
  refine ⟨List.any_eq_false.2 fun e he => ?_, List.any_eq_false.2 fun e he => ?_⟩
  · obtain ⟨h1, h2, _⟩ := key e he
    simp only [unE, h1, Bool.not_true, Bool.false_or, Bool.or_eq_true, decide_eq_true_eq]; omega
  · obtain ⟨_, _, h3, h4⟩ := key e he
    simp only [DQ, Bool.or_eq_true, decide_eq_true_eq]; omega

theorem QA {l : List aI} (h : ∀ p ∈ l, oO p = true) (hn : l.length ≤ 4096) : dZ l = lQ (peL l) := by
  unfold dZ
  have : (l.any fun p => !oO p) = false := List.any_eq_false.2 fun p hp => by simp [h p hp]
  rw [this]
  have h2 : decide (4096 < l.length) = false := by simp; omega
  rw [h2]
  simp only [Bool.false_eq_true, if_false]

theorem VO {x : List aC} (ht : pE x = true) : ∀ g ∈ groups x, uF 0 g.2 := fun _ hg => rA (qA ht hg).1 (qA ht hg).2

theorem CC {x : List aC} (ht : pE x = true) (hm : gZ (groups x) ≤ 4096) : dZ (dU (groups x)) = (x, 0) := by
  have hl := sP (groups x)
  have hmay := (mU.1 ht).1
  have hs := (oD hmay).2.2
  rw [QA (fun p hp => DB ht hp) (by omega)]
  obtain ⟨u1, u2⟩ := aCZ fun p hp => DB ht hp
  refine aBI u1 u2 hmay fun r => ?_
  obtain ⟨v1, v2⟩ := RC u1 u2 r
  refine aBm v1 v2 (MB hmay r) fun t h1 h2 => ?_
  rw [PN h2 hs (VO ht), NO hmay]

theorem val_last {f : List aA} (t : Int) : val f t - val f (t - 1) = ((f.filter fun j => decide (j.At = t)).map aA.Net).sum := by
  induction f with
  | nil => rfl
  | cons j f ih =>
    rw [cA, cA]
    by_cases e : j.At = t
    · rw [List.filter_cons_of_pos (by simpa using e), if_pos (by omega), if_neg (by omega), List.map_cons, List.sum_cons, ← ih]; omega
    · rw [List.filter_cons_of_neg (by simpa using e), ← ih]
      by_cases h : j.At ≤ t
      · rw [if_pos h, if_pos (by omega)]; omega
      · rw [if_neg h, if_neg (by omega)]; omega

theorem KX : ∀ f : List aA, (f.map aA.Net).sum ≤ cY f
  | [] => by simp [cY]
  | j :: f => by rw [List.map_cons, List.sum_cons, pJ]; have := KX f; split <;> omega

theorem KF (p : aA → Bool) : ∀ f : List aA, cY f = cY (f.filter p) + cY (f.filter fun j => !p j)
  | [] => rfl
  | j :: f => by
    rw [pJ, KF p f]
    cases h : p j
    · rw [List.filter_cons_of_neg (by simp [h]), List.filter_cons_of_pos (by simp [h]), pJ]; omega
    · rw [List.filter_cons_of_pos (by simp [h]), List.filter_cons_of_neg (by simp [h]), pJ]; omega

theorem HG {f : List aA} {p t : Int} (h : p ≤ t) : val (f.filter fun j => !decide (j.At = p)) t = val f t - (val f p - val f (p - 1)) := by
  induction f with
  | nil => simp [val]
  | cons j f ih =>
    rw [cA, cA, cA]
    by_cases e : j.At = p
    · rw [List.filter_cons_of_neg (by simp [e]), ih, if_pos (by omega), if_pos (by omega), if_neg (by omega)]; omega
    · rw [List.filter_cons_of_pos (by simp [e]), cA, ih]
      by_cases h2 : j.At ≤ p
      · rw [if_pos (by omega), if_pos h2, if_pos (by omega)]; omega
      · rw [if_neg h2, if_neg (show ¬ j.At ≤ p - 1 by omega)]; omega

theorem XD : ∀ {g f : List aA} {last : Int}, Up last g → (∀ t, last < t → t < 1125899906842624 → val g t - val g last = val f t - val f last) → cY g ≤ cY f
  | [], f, _, _, _ => by rw [show cY [] = 0 from rfl]; exact mY f
  | j :: g, f, last, hu, hv => by
    have hj := hu.1
    rw [pJ, KF (fun k => decide (k.At = j.At)) f]
    have h0 : val (j :: g) last = 0 := hu.uA (Int.le_refl _)
    have hjn : j.Net = ((f.filter fun k => decide (k.At = j.At)).map aA.Net).sum := by
      rw [← val_last]
      have h1 := hv j.At hj.1 hj.2.1
      have g1 : val (j :: g) j.At = j.Net := by rw [cA, if_pos (Int.le_refl _), hu.2.uA (Int.le_refl _)]; omega
      by_cases hl : last < j.At - 1
      · have h2 := hv (j.At - 1) hl (by omega)
        have g2 : val (j :: g) (j.At - 1) = 0 := by rw [cA, if_neg (by omega), hu.2.uA (by omega)]; omega
        omega
      · have : j.At - 1 = last := by omega
        rw [this]; omega
    have ih := XD (g := g) (f := f.filter fun k => !decide (k.At = j.At)) (last := j.At) hu.2 fun t h1 h2 => by
      have a1 := hv t (by omega) h2
      have a2 := hv j.At hj.1 hj.2.1
      have b1 : val (j :: g) t = j.Net + val g t := by rw [cA, if_pos (by omega)]
      have b2 : val (j :: g) j.At = j.Net + val g j.At := by rw [cA, if_pos (Int.le_refl _)]
      rw [HG (by omega), HG (Int.le_refl _)]
      omega
    have h3 := KX (f.filter fun k => decide (k.At = j.At))
    have h4 := mY (f.filter fun k => decide (k.At = j.At))
    split <;> omega

theorem aAQ {f : List aA} (ht : ∀ j ∈ f, -2 < j.At) : cY (xD f) ≤ cY f :=
  XD (GR ht) fun t h1 h2 => by
    rw [IX ht h1 h2, (GR ht).uA (Int.le_refl _), uN (f := f) (t := -2) fun j hj => ht j hj]

def ofRow (r : List aG) (l : List aI) : Nat := (l.filter fun p => decide (p.Row = r)).length

theorem XC (r : List aG) : ∀ l : List aI, cY (cB (peL l) r) = (ofRow r l : Nat)
  | [] => rfl
  | p :: l => by
    rw [CA, pV, IF, XC r l]
    unfold ofRow
    by_cases e : p.Row = r
    · rw [List.filter_cons_of_pos (by simpa using e)]
      simp [cB, e, jE, cY]
      omega
    · rw [List.filter_cons_of_neg (by simpa using e)]
      simp [cB, e, cY]

theorem MK {α : Type} (p : α → Bool) : ∀ l : List α, (l.filter p).length + (l.filter fun x => !p x).length = l.length
  | [] => rfl
  | a :: l => by
    have := MK p l
    cases h : p a
    · rw [List.filter_cons_of_neg (by simp [h]), List.filter_cons_of_pos (by simp [h])]; simp only [List.length_cons]; omega
    · rw [List.filter_cons_of_pos (by simp [h]), List.filter_cons_of_neg (by simp [h])]; simp only [List.length_cons]; omega

theorem PR : ∀ {rs : List (List aG)}, rs.Nodup → ∀ l : List aI, (rs.map fun r => ofRow r l).sum ≤ l.length
  | [], _, l => by simp
  | r :: rs, hn, l => by
    have hn' := List.nodup_cons.1 hn
    have h1 := PR hn'.2 (l.filter fun p => !decide (p.Row = r))
    have h2 : (rs.map fun q => ofRow q l) = rs.map fun q => ofRow q (l.filter fun p => !decide (p.Row = r)) := by
      refine List.map_congr_left fun q hq => ?_
      have hne : q ≠ r := fun e => hn'.1 (e ▸ hq)
      unfold ofRow
      rw [List.filter_filter]
      congr 1
      refine List.filter_congr fun p _ => ?_
      by_cases e : p.Row = q
      · have : p.Row ≠ r := fun h => hne (e ▸ h)
        simp [e, hne]
      · simp [e]
    rw [List.map_cons, List.sum_cons, h2]
    have h3 : ofRow r l + (l.filter fun p => !decide (p.Row = r)).length = l.length := by
      unfold ofRow
      exact MK _ l
    omega

theorem YF {rs : List (List aG)} (h : FI rs) : rs.Nodup := by
  unfold List.Nodup
  exact h.imp fun {a b} hab e => by subst e; exact nC hab

theorem AG {l : List aI} (h : (dZ l).2 = 0) : (∀ p ∈ l, oO p = true) ∧ l.length ≤ 4096 ∧ dZ l = lQ (peL l) := by
  unfold dZ at h
  split at h
  · simp at h
  · rename_i h1
    split at h
    · simp at h
    · rename_i h2
      have a : ∀ p ∈ l, oO p = true := fun p hp => by
        rw [Bool.not_eq_true, List.any_eq_false] at h1
        simpa using h1 p hp
      have b : l.length ≤ 4096 := by simp at h2; omega
      exact ⟨a, b, QA a b⟩

def EO (r : List aG) (t : Int) (l : List aI) : Int := (l.map fun p => if p.Row = r ∧ p.Span.From ≤ t ∧ t < p.Span.To then 1 else 0).sum

theorem KH (r : List aG) (t : Int) (p : aI) (l : List aI) : EO r t (p :: l) = (if p.Row = r ∧ p.Span.From ≤ t ∧ t < p.Span.To then 1 else 0) + EO r t l := by simp [EO]

theorem GX (r : List aG) (t : Int) : ∀ l, 0 ≤ EO r t l
  | [] => by simp [EO]
  | p :: l => by rw [KH]; have := GX r t l; split <;> omega

theorem aA8 {r : List aG} {t : Int} : ∀ {l : List aI}, (∀ p ∈ l, oO p = true) → val (cB (peL l) r) t = EO r t l
  | [], _ => rfl
  | p :: l, h => by
    rw [CA, pV, oJ, aA8 fun q hq => h q (by simp [hq]), KH]
    have hm := h p (by simp)
    unfold oO at hm
    rw [Bool.and_eq_true, AQ] at hm
    by_cases e : p.Row = r
    · have : cB [⟨p.Row, p.Span.From, 1⟩, ⟨p.Row, p.Span.To, -1⟩] r = [⟨p.Span.From, 1⟩, ⟨p.Span.To, -1⟩] := by simp [cB, e, jE]
      rw [this, cA, cA, nE]
      simp only [e, true_and]
      split <;> split <;> split <;> omega
    · have : cB [⟨p.Row, p.Span.From, 1⟩, ⟨p.Row, p.Span.To, -1⟩] r = [] := by simp [cB, e]
      rw [this, nE, if_neg (by simp [e])]

theorem uU {l : List aI} (h : (dZ l).2 = 0) : pE (dZ l).1 = true := by
  obtain ⟨a, b, c⟩ := AG h
  rw [c] at h ⊢
  exact VJ h fun r t _ _ => by rw [aA8 a]; exact GX ..

theorem DP {l : List aI} (h : (dZ l).2 = 0) : gZ (groups (dZ l).1) ≤ l.length := by
  have ht := uU h
  have hmay := (mU.1 ht).1
  rw [← VL hmay]
  have h1 : gZ (uE (dZ l).1) ≤ (((rowsOf (dZ l).1).map fun r => ofRow r l).sum : Nat) := by
    unfold gZ uE
    rw [List.map_map]
    induction rowsOf (dZ l).1 with
    | nil => simp
    | cons r rs ih =>
      simp only [List.map_cons, List.sum_cons, Function.comp]
      have : cY (cB (dZ l).1 r) ≤ (ofRow r l : Nat) := by
        obtain ⟨a, b, c⟩ := AG h
        have h' := h
        rw [c] at h' ⊢
        rw [JX h', ← XC]
        exact aAQ (BX h' r)
      omega
  have h2 := PR (YF (FK (dZ l).1)) l
  omega

theorem TK {l : List aI} : jL l = if (dZ l).2 = 0 then (dU (groups (dZ l).1), 0) else ([], (dZ l).2) := by
  unfold jL
  by_cases h : (dZ l).2 = 0
  · rw [if_neg (by simp [h]), if_pos h]
    have ht := uU h
    have hm := DP h
    have hn := (AG h).2.1
    unfold sK
    rw [(mU.1 ht).1, ht]
    have : decide (4096 < gZ (groups (dZ l).1)) = false := by simp; omega
    rw [this]
    simp only [Bool.not_true, Bool.false_eq_true, if_false]
  · rw [if_pos h, if_neg h]

theorem KY {l : List aI} (h : (jL l).2 = 0) : (dZ l).2 = 0 ∧ jL l = (dU (groups (dZ l).1), 0) ∧ dZ (jL l).1 = ((dZ l).1, 0) ∧ (jL l).1.length ≤ l.length := by
  rw [TK] at h
  split at h
  · rename_i he
    have hp : jL l = (dU (groups (dZ l).1), 0) := by rw [TK, if_pos he]
    have hm := DP he
    have hn := (AG he).2.1
    have hl := sP (groups (dZ l).1)
    refine ⟨he, hp, ?_, by rw [hp]; simp only; omega⟩
    rw [hp]
    exact CC (uU he) (by omega)
  · rename_i he
    exact absurd h he

end Go.Abs
namespace Go.Abs
open Go
theorem rY (x y : aI) : x = y ↔ (x.Span.From = y.Span.From ∧ x.Span.To = y.Span.To) ∧ x.Row = y.Row := by
  obtain ⟨r, a, b⟩ := x
  obtain ⟨q, c, d⟩ := y
  simp only [aI.mk.injEq, aR.mk.injEq]
  constructor
  · rintro ⟨h1, h2, h3⟩; exact ⟨⟨h2, h3⟩, h1⟩
  · rintro ⟨⟨h2, h3⟩, h1⟩; exact ⟨h1, h2, h3⟩

theorem VF (x y : aI) (hl : x.Row.length ≤ 17592186044416) : oY x y = some (decide (x = y)) := by
  unfold oY
  rw [LY _ _ hl]
  by_cases h : x.Span.From = y.Span.From ∧ x.Span.To = y.Span.To
  · by_cases h2 : x.Row = y.Row
    · simp [h.1, h.2, h2, cV, rY]
    · simp [h.1, h.2, h2, cV, rY]
  · have : ((decide (x.Span.From = y.Span.From)) && ((decide (x.Span.To = y.Span.To)) && true)) = false := by
      simp only [Bool.and_true, Bool.and_eq_false_iff, decide_eq_false_iff_not]
      by_cases h1 : x.Span.From = y.Span.From
      · exact .inr fun h2 => h ⟨h1, h2⟩
      · exact .inl h1
    have hn : ¬ x = y := fun e => h ((rY x y).1 e).1
    rw [this]; simp [cV, hn]

theorem WD {a b : List aI} (hl : okP a) : tX a b = some (decide (a = b)) := by
  unfold tX cM
  have hlen := hl.1
  by_cases he : a.length = b.length
  · rw [MF he, cond_false]
    unfold cL
    have := MA (f := a) (g := b) (body := fun s => bX (fun y0 y1 => oY y0 y1) b a (a.length : Nat) s) he ?_ ?_ a.length 0 rfl (Nat.zero_le _)
    · simp only [Int.natCast_zero, List.drop_zero] at this
      rw [this]
      by_cases h : a = b <;> simp [h, cF]
    · intro i x y hx hy
      obtain ⟨d1, d2, d3, d4⟩ := idx hx (by omega)
      obtain ⟨_, e2, e3, _⟩ := idx hy (by omega)
      have hr := hl.2 x (List.mem_of_getElem? hx)
      simp only [bX, d1, cond_true, bF d2, bF e2, d3, e3, d4, VF x y (by omega), Option.bind_some]
      by_cases h : x = y <;> simp [h]
    · simp only [bX, jO, cond_false]
  · rw [MQ he, cond_true]
    have : a ≠ b := fun h => he (by rw [h])
    simp [this]

theorem DX {a b : List aI} (hl : okP a) : mX a b = some (decide (a = b)) := by
  unfold mX
  have hlen := hl.1
  by_cases he : a.length = b.length
  · rw [MF he, cond_false]
    unfold xE
    have := MA (f := a) (g := b) (body := fun s => qM a b s) he ?_ ?_ a.length 0 rfl (Nat.zero_le _)
    · simp only [Int.natCast_zero, List.drop_zero] at this
      rw [this]
      by_cases h : a = b <;> simp [h, tI]
    · intro i x y hx hy
      obtain ⟨d1, d2, d3, d4⟩ := idx hx (by omega)
      obtain ⟨_, e2, e3, _⟩ := idx hy (by omega)
      have hr := hl.2 x (List.mem_of_getElem? hx)
      simp only [qM, d1, cond_true, bF d2, bF e2, d3, e3, d4]
      rw [bF fun _ => d2, bF fun _ => e2, RL _ _ (by omega)]
      by_cases h : x.Span.From = y.Span.From ∧ x.Span.To = y.Span.To
      · by_cases h2 : x.Row = y.Row
        · simp [h.1, h.2, h2, cV, rY]
        · simp [h.1, h.2, h2, cV, rY]
      · have : ((decide (x.Span.From = y.Span.From)) && ((decide (x.Span.To = y.Span.To)) && true)) = false := by
          simp only [Bool.and_true, Bool.and_eq_false_iff, decide_eq_false_iff_not]
          by_cases h1 : x.Span.From = y.Span.From
          · exact .inr fun h2 => h ⟨h1, h2⟩
          · exact .inl h1
        have hn : ¬ x = y := fun e => h ((rY x y).1 e).1
        rw [this]; simp [cV, hn]
    · simp only [qM, jO, cond_false]
  · rw [MQ he, cond_true]
    have : a ≠ b := fun h => he (by rw [h])
    simp [this]

def rJ (t : Int) (p : aI) : List aI := if p.Span.From < t then [⟨p.Row, ⟨p.Span.From, if t < p.Span.To then t else p.Span.To⟩⟩] else []

def nZ (t : Int) (l : List aI) : List aI := l.flatMap (rJ t)

def rF (t : Int) (p : aI) : List aI := if t < p.Span.To then [⟨p.Row, ⟨if t > p.Span.From then t else p.Span.From, p.Span.To⟩⟩] else []

def oZ (t : Int) (l : List aI) : List aI := l.flatMap (rF t)

theorem DG (t : Int) (p : aI) (l : List aI) : nZ t (p :: l) = rJ t p ++ nZ t l := rfl

theorem DA (t : Int) (p : aI) (l : List aI) : oZ t (p :: l) = rF t p ++ oZ t l := rfl

theorem GG (t : Int) : ∀ l : List aI, (nZ t l).length ≤ l.length
  | [] => Nat.le_refl _
  | p :: l => by rw [DG, List.length_append, List.length_cons]; have := GG t l; unfold rJ; split <;> simp <;> omega

theorem FA (t : Int) : ∀ l : List aI, (oZ t l).length ≤ l.length
  | [] => Nat.le_refl _
  | p :: l => by rw [DA, List.length_append, List.length_cons]; have := FA t l; unfold rF; split <;> simp <;> omega

theorem aBL {t : Int} {l : List aI} (h : okP l) : okP (nZ t l) :=
  ⟨Nat.le_trans (GG t l) h.1, fun e he => by
    obtain ⟨p, hp, h1⟩ := List.mem_flatMap.1 he
    unfold rJ at h1
    split at h1
    · rw [List.mem_singleton.1 h1]; exact h.2 p hp
    · simp at h1⟩

theorem aBj {t : Int} {l : List aI} (h : okP l) : okP (oZ t l) :=
  ⟨Nat.le_trans (FA t l) h.1, fun e he => by
    obtain ⟨p, hp, h1⟩ := List.mem_flatMap.1 he
    unfold rF at h1
    split at h1
    · rw [List.mem_singleton.1 h1]; exact h.2 p hp
    · simp at h1⟩

theorem TL (a b : Int) : pW a b = some (decide (a < b)) := by
  simp [pW, jM, cV]

theorem SG {l : List aI} (hl : okP l) (t : Int) : vC l t = some (nZ t l) := by
  have hlen := hl.1
  unfold vC xB
  rw [xY (l := l) (body := fun s : List aI × Int => nK t l ((List.length l : Nat) : Int) s.1 s.2) (fun o i => (o, i)) (fun o r => o ++ nZ t r) (fun o r => o.length + r.length ≤ 3518437208783 ∧ ∀ p ∈ r, p.Row.length ≤ 4398046510976) [] ?_ ?_ ⟨by simpa using hlen, hl.2⟩]
  · simp [tJ]
  · intro i a r o ha hi
    left
    obtain ⟨d1, d2, d3, d4⟩ := idx ha (by omega)
    have hr := hi.2 a (by simp)
    have h1 := hi.1
    simp only [List.length_cons] at h1
    show ∃ s', nK _ _ _ _ _ = _ ∧ _
    simp only [nK, d1, cond_true, bF d2, d3, TL, Option.bind_some]
    by_cases h : a.Span.From < t
    · refine ⟨o ++ [⟨a.Row, ⟨a.Span.From, if t < a.Span.To then t else a.Span.To⟩⟩], ?_, ⟨by simp; omega, fun p hp => hi.2 p (by simp [hp])⟩, by rw [DG, rJ, if_pos h, List.append_assoc]⟩
      simp only [h, decide_true, cond_true, zA hr, Option.bind_some]
      rw [bF (by simp only [List.length_cons, List.length_nil]; omega)]
      simp only [qS, d4]
    · refine ⟨o, ?_, ⟨by omega, fun p hp => hi.2 p (by simp [hp])⟩, by rw [DG, rJ, if_neg h, List.nil_append]⟩
      simp only [h, decide_false, cond_false, qS, d4]
  · intro o _
    show nK _ _ _ _ _ = _
    simp only [nK, jO, cond_false]
    simp [nZ]

theorem WL {l : List aI} (hl : okP l) (t : Int) : wQ l t = some (oZ t l) := by
  have hlen := hl.1
  unfold wQ zH
  rw [xY (l := l) (body := fun s : List aI × Int => oT t l ((List.length l : Nat) : Int) s.1 s.2) (fun o i => (o, i)) (fun o r => o ++ oZ t r) (fun o r => o.length + r.length ≤ 3518437208783 ∧ ∀ p ∈ r, p.Row.length ≤ 4398046510976) [] ?_ ?_ ⟨by simpa using hlen, hl.2⟩]
  · simp [vN]
  · intro i a r o ha hi
    left
    obtain ⟨d1, d2, d3, d4⟩ := idx ha (by omega)
    have hr := hi.2 a (by simp)
    have h1 := hi.1
    simp only [List.length_cons] at h1
    show ∃ s', oT _ _ _ _ _ = _ ∧ _
    simp only [oT, d1, cond_true, bF d2, d3, TL, Option.bind_some]
    by_cases h : t < a.Span.To
    · refine ⟨o ++ [⟨a.Row, ⟨if t > a.Span.From then t else a.Span.From, a.Span.To⟩⟩], ?_, ⟨by simp; omega, fun p hp => hi.2 p (by simp [hp])⟩, by rw [DA, rF, if_pos h, List.append_assoc]⟩
      simp only [h, decide_true, cond_true, zA hr, Option.bind_some]
      rw [bF (by simp only [List.length_cons, List.length_nil]; omega)]
      simp only [rX, d4]
    · refine ⟨o, ?_, ⟨by omega, fun p hp => hi.2 p (by simp [hp])⟩, by rw [DA, rF, if_neg h, List.nil_append]⟩
      simp only [h, decide_false, cond_false, rX, d4]
  · intro o _
    show oT _ _ _ _ _ = _
    simp only [oT, jO, cond_false]
    simp [oZ]

def mK (a b : Int) : aI := ⟨[⟨1, 1, ByteArray.empty⟩], ⟨a, b⟩⟩

theorem aBv (a b : Int) : jX a b = some (mK a b) := rfl

theorem MG {l : List aI} (h : l.length ≤ 4096) (hr : ∀ e ∈ l, e.Row.length ≤ 8) : okP l := ⟨by omega, fun e he => by have := hr e he; omega⟩

theorem aCn : jL [mK 5 9, mK 2 5] = ([mK 2 9], 0) := by decide +kernel

theorem aCi : jL [mK 1 10, mK 3 5] = ([mK 1 5, mK 3 10], 0) := by decide +kernel

theorem IJ : pY = some true := by
  unfold pY
  simp only [aBv, Option.bind_some]
  rw [CI (l := [mK 5 9, mK 2 5]) (MG (by simp) (by simp [mK])) (by simp), aCn]
  simp only [Option.bind_some]
  rw [CI (l := [mK 1 10, mK 3 5]) (MG (by simp) (by simp [mK])) (by simp), aCi]
  simp only [Option.bind_some]
  have g1 : tX [mK 2 9] [mK 2 9] = some (decide ([mK 2 9] = [mK 2 9])) := WD (MG (by simp) (by simp [mK]))
  have g2 : mX [mK 1 5, mK 3 10] [mK 1 5, mK 3 10] = some (decide ([mK 1 5, mK 3 10] = [mK 1 5, mK 3 10])) := DX (MG (by simp) (by simp [mK]))
  have h1 : oO (mK (-1) 0) = true := by decide +kernel
  have h2 : oO (mK 3 3) = false := by decide +kernel
  simp [cV, g1, g2, WU, h1, h2]

end Go.Abs
namespace Go.Abs
open Go
theorem aCJ {l : List aI} (m : ∀ a ∈ l, uP a) (y : List.length l * 40 ≤ 140737488351232) : okP l :=
  ⟨by omega, fun e he => by have := (m e he).1.2; omega⟩

theorem aBr {p : aI} (h : oO p = true) : p.Row.length ≤ 8 := by
  unfold oO at h
  rw [Bool.and_eq_true] at h
  exact (JO h.1).1

theorem aCA {l : List aI} (h : ∀ p ∈ l, oO p = true) (hn : l.length ≤ 1000000) : okP l :=
  ⟨by omega, fun e he => by have := aBr (h e he); omega⟩

theorem aAP {l : List aI} (h : (jL l).2 = 0) : ∀ p ∈ (jL l).1, oO p = true := by
  obtain ⟨h1, h2, _, _⟩ := KY h
  rw [h2]
  exact fun p hp => DB (uU h1) hp

theorem VD {l : List aI} (h : (jL l).2 = 0) : (jL l).1.length ≤ 4096 := by
  obtain ⟨h1, _, _, h4⟩ := KY h
  have := (AG h1).2.1
  omega

theorem ZZ {l : List aI} (h : (jL l).2 = 0) : okP (jL l).1 := aCA (aAP h) (by have := VD h; omega)

end Go.Abs
namespace Go.Abs
open Go
theorem YI : mS [] = [] := rfl

theorem GL : ∀ gs : List (List aG × List aA), dU (AX gs) = dU gs
  | [] => rfl
  | g :: gs => by
    unfold AX
    cases h : g.2.isEmpty
    · rw [List.filter_cons_of_pos (by simp [h]), qY, qY]
      exact congrArg _ (GL gs)
    · rw [List.filter_cons_of_neg (by simp [h]), qY, List.isEmpty_iff.1 h, YI]
      exact GL gs

theorem VP {gs hs : List (List aG × List aA)} (h : dU gs = dU hs) : gZ gs = gZ hs := by
  rw [← sP, ← sP, h]

theorem VN {gs : List (List aG × List aA)} (h : ∀ g ∈ gs, ∀ t, 0 ≤ val g.2 t) (r : List aG) (t : Int) : 0 ≤ val (look gs r) t := by
  rcases yY gs r with ⟨h1, _⟩ | ⟨g, hg, _, h1⟩
  · rw [h1]; exact Int.le_refl _
  · rw [h1]; exact h g hg t

theorem YR {gs : List (List aG × List aA)} (hs : qF gs) (hm : ∀ g ∈ gs, nD g.1 = true ∧ dO g.2 = true) (hv : ∀ g ∈ gs, ∀ t, 0 ≤ val g.2 t) (hl : (flat gs).length ≤ 4096) : pE (flat gs) = true :=
  mU.2 ⟨PJ hs hm hl, fun r t => by rw [qE hs]; exact VN hv r t⟩

theorem KL {gs : List (List aG × List aA)} (hs : qF gs) (hm : ∀ g ∈ gs, nD g.1 = true ∧ dO g.2 = true) (hv : ∀ g ∈ gs, ∀ t, 0 ≤ val g.2 t) (hl : (flat gs).length ≤ 4096) (hn : gZ gs ≤ 4096) : sK (flat gs) = (dU gs, 0) ∧ jL (dU gs) = (dU gs, 0) := by
  have ht := YR hs hm hv hl
  have hg := zE hs
  have hf : dU (groups (flat gs)) = dU gs := by rw [hg, GL]
  have hq : gZ (groups (flat gs)) = gZ gs := VP hf
  have h1 : sK (flat gs) = (dU gs, 0) := by
    unfold sK
    have : decide (4096 < gZ (groups (flat gs))) = false := by simp; omega
    rw [(mU.1 ht).1, ht, this, hf]
    rfl
  have h2 := CC ht (by omega)
  rw [hf] at h2
  refine ⟨h1, ?_⟩
  unfold jL
  rw [h2]
  simpa using h1

theorem UO {t : Int} (f : List aA) : eJ f = eJ (cN t f) ++ eJ (aft t f) ∧ ends f = ends (cN t f) ++ ends (aft t f) := by
  rw [← AW, ← DR, xV]; exact ⟨rfl, rfl⟩

theorem FF {t : Int} : ∀ {f : List aA} {v : Int}, uF v f → uF v (cN t f)
  | [], _, _ => trivial
  | j :: r, v, h => by
    unfold cN
    split
    · trivial
    · exact ⟨h.1, FF h.2⟩

theorem DT : ∀ f : List aA, jA f = ((eJ f).length : Int) - (ends f).length
  | [] => rfl
  | j :: f => by
    rw [HN, jD, rG, List.length_append, List.length_append, List.length_replicate, List.length_replicate, DT f]
    omega

theorem BH {f : List aA} {x : Int} (h : x ∈ eJ f) : ∃ j ∈ f, j.At = x := by
  obtain ⟨j, hj, h2⟩ := List.mem_flatMap.1 h
  exact ⟨j, hj, (List.mem_replicate.1 h2).2.symm⟩

theorem FO {f : List aA} {x : Int} (h : x ∈ ends f) : ∃ j ∈ f, j.At = x := by
  obtain ⟨j, hj, h2⟩ := List.mem_flatMap.1 h
  exact ⟨j, hj, (List.mem_replicate.1 h2).2.symm⟩

theorem CK {f : List aA} {l : Int} (hf : kO l f) (hv : uF 0 f) : (f.length : Int) ≤ 2 * cY f := by
  have h1 : ∀ {f : List aA} {l : Int}, kO l f → f.length ≤ (eJ f).length + (ends f).length := by
    intro f
    induction f with
    | nil => intro _ _; simp
    | cons j f ih =>
      intro l h
      have := ih h.2
      have hj := h.1.2.2.1
      rw [jD, rG, List.length_append, List.length_append, List.length_replicate, List.length_replicate, List.length_cons]
      omega
  have h2 := h1 hf
  have h3 := JG hv
  have h4 := yV f
  omega

theorem UR {f : List aA} {l : Int} (hf : kO l f) (hv : uF 0 f) (hne : f ≠ []) : 1 ≤ cY f := by
  have := CK hf hv
  cases f with
  | nil => exact absurd rfl hne
  | cons j r => simp only [List.length_cons] at this; omega

theorem PO (f : List aA) : jA f ≤ cY f := KX f

theorem PF (t : Int) (f : List aA) : cY (cN t f) ≤ cY f := by
  have := IF (cN t f) (aft t f)
  rw [xV] at this
  have := mY (aft t f)
  omega

theorem HW {t : Int} : ∀ {f : List aA} {l : Int}, kO l f → kO l (cN t f)
  | [], _, _ => trivial
  | j :: r, l, h => by
    unfold cN
    split
    · trivial
    · exact ⟨h.1, HW h.2⟩

theorem FT {t m : Int} (hm : m < t) : ∀ {f : List aA} {l : Int}, kO l f → kO m (aft t f)
  | [], _, _ => trivial
  | j :: r, l, h => by
    unfold aft
    split
    · exact h.restrict (by omega)
    · exact FT hm h.2

theorem QD {k : aA} : ∀ {f : List aA} {l : Int}, kO l f → (∀ j ∈ f, j.At < k.At) → l < k.At → (k.At < 1125899906842624 ∧ k.Net ≠ 0 ∧ k.Net ≤ 1048576 ∧ -1048576 ≤ k.Net) → kO l (f ++ [k])
  | [], _, _, _, hl, hk => ⟨⟨hl, hk⟩, trivial⟩
  | j :: r, _, h, hj, _, hk => ⟨h.1, QD h.2 (fun x hx => hj x (by simp [hx])) (hj j (by simp)) hk⟩

def uH (t : Int) (f : List aA) : List aA := (if jA (cN (t + 1) f) = 0 then [] else [⟨t, jA (cN (t + 1) f)⟩]) ++ aft (t + 1) f

theorem aAY {f : List aA} {t : Int} (hf : dO f = true) (p : Int) : val (uH t f) p = if p < t then 0 else val f p := by
  have hr := (dV.1 hf).2
  have ha := FT (t := t + 1) (m := t) (by omega) hr
  have h1 : val (if jA (cN (t + 1) f) = 0 then [] else [⟨t, jA (cN (t + 1) f)⟩]) p = if t ≤ p then jA (cN (t + 1) f) else 0 := by
    split
    · rename_i h; rw [h]; simp [val]
    · rw [cA, nE]; simp
  unfold uH
  rw [oJ, h1]
  by_cases hp : p < t
  · rw [if_pos hp, if_neg (by omega), ha.uA (by omega)]; rfl
  · rw [if_neg hp, if_pos (by omega)]
    have h2 : val f p = val (cN (t + 1) f) p + val (aft (t + 1) f) p := by rw [← oJ, xV]
    have h3 : val (cN (t + 1) f) p = jA (cN (t + 1) f) := PD fun j hj => by have := vU j hj; omega
    rw [h2, h3]

theorem NC {f : List aA} {t : Int} (hf : dO f = true) (hv : ∀ t, 0 ≤ val f t) (h0 : 0 ≤ t) (ht : t < 1125899906842624) (hm : cY f ≤ 500) : dO (mF t f) = true := by
  have hr := (dV.1 hf).2
  have hv' := rA hf hv
  have h1 := CK hr hv'
  have h2 := GI t f
  have h3 : 0 ≤ jA (cN t f) := by rw [IP hr]; exact hv _
  have h4 := PO (cN t f)
  have h5 := PF t f
  refine dV.2 ⟨?_, ?_⟩
  · unfold mF; rw [List.length_append]; split <;> simp only [List.length_nil, List.length_cons] <;> omega
  · unfold mF
    split
    · rw [List.append_nil]; exact HW hr
    · exact QD (HW hr) (fun j hj => vU j hj) (by simp only; omega) ⟨ht, by simp only; omega, by simp only; omega, by simp only; omega⟩

theorem aA7 {f : List aA} {t : Int} (hf : dO f = true) (hv : ∀ t, 0 ≤ val f t) (h0 : 0 ≤ t) (ht : t < 1125899906842624) (hm : cY f ≤ 500) : dO (uH t f) = true := by
  have hr := (dV.1 hf).2
  have hv' := rA hf hv
  have h1 := CK hr hv'
  have h2 : (aft (t + 1) f).length ≤ f.length := by
    have := congrArg List.length (xV (t + 1) f)
    rw [List.length_append] at this
    omega
  have h4 := PO (cN (t + 1) f)
  have h5 := PF (t + 1) f
  have h3 : 0 ≤ jA (cN (t + 1) f) := by rw [IP hr]; exact hv _
  refine dV.2 ⟨?_, ?_⟩
  · unfold uH; rw [List.length_append]; split <;> simp only [List.length_nil, List.length_cons] <;> omega
  · unfold uH
    split
    · rw [List.nil_append]; exact FT (by omega) hr
    · exact ⟨⟨by simp only; omega, ht, by simp only; omega, by simp only; omega, by simp only; omega⟩, FT (m := t) (by omega) hr⟩

theorem BG {d t : Int} (hd : t ≤ d) (r : List aG) : ∀ (B1 E1 B2 E2 : List Int), E1.length ≤ B1.length → (∀ b ∈ B1, b < t) → (∀ e ∈ E1, e < t) → (∀ b ∈ B2, t ≤ b) → (∀ e ∈ E2, t ≤ e) →
    nZ t (fU r (pairs d (B1 ++ B2) (E1 ++ E2))) = fU r (pairs t B1 E1)
  | [], [], B2, E2, _, _, _, hb, _ => by
    have : ∀ (B E : List Int), (∀ b ∈ B, t ≤ b) → nZ t (fU r (pairs d B E)) = [] := by
      intro B
      induction B with
      | nil => intro E _; rfl
      | cons b B ih =>
        intro E h
        have hb := h b (by simp)
        have hB : ∀ x ∈ B, t ≤ x := fun x hx => h x (by simp [hx])
        have hn : ¬ b < t := by omega
        cases E with
        | nil =>
          show rJ t ⟨r, ⟨b, d⟩⟩ ++ nZ t (fU r (pairs d B [])) = []
          rw [ih [] hB]; simp [rJ, hn]
        | cons e E =>
          show rJ t ⟨r, ⟨b, e⟩⟩ ++ nZ t (fU r (pairs d B E)) = []
          rw [ih E hB]; simp [rJ, hn]
    simpa [pairs, fU] using this B2 E2 hb
  | [], e :: E1, _, _, h, _, _, _, _ => by simp at h
  | b :: B1, [], B2, [], _, hB, _, hb2, he2 => by
    have hb := hB b (by simp)
    show rJ t ⟨r, ⟨b, d⟩⟩ ++ nZ t (fU r (pairs d (B1 ++ B2) ([] ++ []))) = ⟨r, ⟨b, t⟩⟩ :: fU r (pairs t B1 [])
    rw [BG hd r B1 [] B2 [] (by simp) (fun x hx => hB x (by simp [hx])) (by simp) hb2 he2]
    unfold rJ
    rw [if_pos hb]
    by_cases h : t < d
    · rw [if_pos h]; rfl
    · have : d = t := by omega
      rw [if_neg h]; simp only; rw [this]; rfl
  | b :: B1, [], B2, e :: E2, _, hB, _, hb2, he2 => by
    have hb := hB b (by simp)
    have he := he2 e (by simp)
    show rJ t ⟨r, ⟨b, e⟩⟩ ++ nZ t (fU r (pairs d (B1 ++ B2) ([] ++ E2))) = ⟨r, ⟨b, t⟩⟩ :: fU r (pairs t B1 [])
    rw [BG hd r B1 [] B2 E2 (by simp) (fun x hx => hB x (by simp [hx])) (by simp) hb2 fun x hx => he2 x (by simp [hx])]
    unfold rJ
    rw [if_pos hb]
    by_cases h : t < e
    · rw [if_pos h]; rfl
    · have : e = t := by omega
      rw [if_neg h]; simp only; rw [this]; rfl
  | b :: B1, e :: E1, B2, E2, h, hB, hE, hb2, he2 => by
    have hb := hB b (by simp)
    have he := hE e (by simp)
    show rJ t ⟨r, ⟨b, e⟩⟩ ++ nZ t (fU r (pairs d (B1 ++ B2) (E1 ++ E2))) = ⟨r, ⟨b, e⟩⟩ :: fU r (pairs t B1 E1)
    rw [BG hd r B1 E1 B2 E2 (by simpa using h) (fun x hx => hB x (by simp [hx])) (fun x hx => hE x (by simp [hx])) hb2 he2]
    unfold rJ
    rw [if_pos hb, if_neg (show ¬ t < e by omega)]
    rfl

theorem BI {d t : Int} (hd : t < d) (r : List aG) : ∀ (B1 E1 B2 E2 : List Int), E1.length ≤ B1.length → (∀ b ∈ B1, b ≤ t) → (∀ e ∈ E1, e ≤ t) → (∀ b ∈ B2, t < b) → (∀ e ∈ E2, t < e) →
    oZ t (fU r (pairs d (B1 ++ B2) (E1 ++ E2))) = fU r (pairs d (List.replicate (B1.length - E1.length) t ++ B2) E2)
  | [], [], B2, E2, _, _, _, hb, he => by
    have : ∀ (B E : List Int), (∀ b ∈ B, t < b) → (∀ e ∈ E, t < e) → oZ t (fU r (pairs d B E)) = fU r (pairs d B E) := by
      intro B
      induction B with
      | nil => intro E _ _; rfl
      | cons b B ih =>
        intro E h h2
        have hb := h b (by simp)
        have hB : ∀ x ∈ B, t < x := fun x hx => h x (by simp [hx])
        cases E with
        | nil =>
          show rF t ⟨r, ⟨b, d⟩⟩ ++ oZ t (fU r (pairs d B [])) = ⟨r, ⟨b, d⟩⟩ :: fU r (pairs d B [])
          rw [ih [] hB (by simp)]
          unfold rF
          rw [if_pos hd, if_neg (show ¬ t > b by omega)]; rfl
        | cons e E =>
          show rF t ⟨r, ⟨b, e⟩⟩ ++ oZ t (fU r (pairs d B E)) = ⟨r, ⟨b, e⟩⟩ :: fU r (pairs d B E)
          rw [ih E hB fun x hx => h2 x (by simp [hx])]
          unfold rF
          rw [if_pos (show t < e from h2 e (by simp)), if_neg (show ¬ t > b by omega)]; rfl
    simpa using this B2 E2 hb he
  | [], e :: E1, _, _, h, _, _, _, _ => by simp at h
  | b :: B1, [], B2, [], _, hB, _, hb2, he2 => by
    have hb := hB b (by simp)
    have ih := BI hd r B1 [] B2 [] (by simp) (fun x hx => hB x (by simp [hx])) (by simp) hb2 he2
    simp only [List.length_nil, Nat.sub_zero] at ih
    show rF t ⟨r, ⟨b, d⟩⟩ ++ oZ t (fU r (pairs d (B1 ++ B2) ([] ++ []))) = ⟨r, ⟨t, d⟩⟩ :: fU r (pairs d (List.replicate B1.length t ++ B2) [])
    rw [ih]
    unfold rF
    rw [if_pos hd]
    by_cases h : t > b
    · rw [if_pos h]; rfl
    · have : b = t := by omega
      rw [if_neg h]; simp only; rw [this]; rfl
  | b :: B1, [], B2, e :: E2, _, hB, _, hb2, he2 => by
    have hb := hB b (by simp)
    have he := he2 e (by simp)
    have ih := BI hd r B1 [] B2 E2 (by simp) (fun x hx => hB x (by simp [hx])) (by simp) hb2 fun x hx => he2 x (by simp [hx])
    simp only [List.length_nil, Nat.sub_zero] at ih
    show rF t ⟨r, ⟨b, e⟩⟩ ++ oZ t (fU r (pairs d (B1 ++ B2) ([] ++ E2))) = ⟨r, ⟨t, e⟩⟩ :: fU r (pairs d (List.replicate B1.length t ++ B2) E2)
    rw [ih]
    unfold rF
    rw [if_pos he]
    by_cases h : t > b
    · rw [if_pos h]; rfl
    · have : b = t := by omega
      rw [if_neg h]; simp only; rw [this]; rfl
  | b :: B1, e :: E1, B2, E2, h, hB, hE, hb2, he2 => by
    have he := hE e (by simp)
    show rF t ⟨r, ⟨b, e⟩⟩ ++ oZ t (fU r (pairs d (B1 ++ B2) (E1 ++ E2))) = _
    rw [BI hd r B1 E1 B2 E2 (by simpa using h) (fun x hx => hB x (by simp [hx])) (fun x hx => hE x (by simp [hx])) hb2 he2]
    unfold rF
    rw [if_neg (show ¬ t < e by omega), List.nil_append, List.length_cons, List.length_cons, Nat.add_sub_add_right]

theorem aBw {f : List aA} {t : Int} (hf : dO f = true) (hv : ∀ t, 0 ≤ val f t) (ht : t < 1125899906842624) (r : List aG) : nZ t (fU r (mS f)) = fU r (mS (mF t f)) := by
  have hr := (dV.1 hf).2
  obtain ⟨c1, c2⟩ := UO (t := t) f
  have hle := JG (FF (t := t) (rA hf hv))
  have hn := DT (cN t f)
  unfold mS
  rw [c1, c2, BG (by omega) r _ _ _ _ hle (fun b hb => by obtain ⟨j, hj, rfl⟩ := BH hb; exact vU j hj) (fun b hb => by obtain ⟨j, hj, rfl⟩ := FO hb; exact vU j hj) (fun b hb => by obtain ⟨j, hj, rfl⟩ := BH hb; exact EH hr j hj) (fun b hb => by obtain ⟨j, hj, rfl⟩ := FO hb; exact EH hr j hj)]
  congr 1
  unfold mF
  by_cases h : jA (cN t f) = 0
  · rw [if_pos h, List.append_nil]; exact FJ _ _ _ _ (by omega)
  · rw [if_neg h, AW, DR, zF 1125899906842624 t]
    have h1 : eJ [⟨t, -jA (cN t f)⟩] = [] := by
      rw [jD]
      have : (-jA (cN t f)).toNat = 0 := by omega
      simp only [this]; rfl
    have h2 : ends [⟨t, -jA (cN t f)⟩] = List.replicate ((eJ (cN t f)).length - (ends (cN t f)).length) t := by
      rw [rG]
      have : (- -jA (cN t f)).toNat = (eJ (cN t f)).length - (ends (cN t f)).length := by omega
      simp only [this]
      exact List.append_nil _
    rw [h1, h2, List.append_nil]

theorem aBN {f : List aA} {t : Int} (hf : dO f = true) (hv : ∀ t, 0 ≤ val f t) (ht : t < 1125899906842624) (r : List aG) : oZ t (fU r (mS f)) = fU r (mS (uH t f)) := by
  have hr := (dV.1 hf).2
  obtain ⟨c1, c2⟩ := UO (t := t + 1) f
  have hle := JG (FF (t := t + 1) (rA hf hv))
  have hn := DT (cN (t + 1) f)
  unfold mS
  rw [c1, c2, BI (by omega) r _ _ _ _ hle (fun b hb => by obtain ⟨j, hj, rfl⟩ := BH hb; have := vU j hj; omega) (fun b hb => by obtain ⟨j, hj, rfl⟩ := FO hb; have := vU j hj; omega) (fun b hb => by obtain ⟨j, hj, rfl⟩ := BH hb; have := EH hr j hj; omega) (fun b hb => by obtain ⟨j, hj, rfl⟩ := FO hb; have := EH hr j hj; omega)]
  congr 1
  unfold uH
  by_cases h : jA (cN (t + 1) f) = 0
  · have : (eJ (cN (t + 1) f)).length - (ends (cN (t + 1) f)).length = 0 := by omega
    rw [if_pos h, this]; rfl
  · rw [if_neg h, AW, DR]
    have h1 : eJ [⟨t, jA (cN (t + 1) f)⟩] = List.replicate ((eJ (cN (t + 1) f)).length - (ends (cN (t + 1) f)).length) t := by
      rw [jD]
      have : (jA (cN (t + 1) f)).toNat = (eJ (cN (t + 1) f)).length - (ends (cN (t + 1) f)).length := by omega
      simp only [this]
      exact List.append_nil _
    have h2 : ends [⟨t, jA (cN (t + 1) f)⟩] = [] := by
      rw [rG]
      have : (-jA (cN (t + 1) f)).toNat = 0 := by omega
      simp only [this]; rfl
    rw [h1, h2]; rfl

theorem VT (t : Int) (a b : List aI) : nZ t (a ++ b) = nZ t a ++ nZ t b := by simp [nZ]

theorem VQ (t : Int) (a b : List aI) : oZ t (a ++ b) = oZ t a ++ oZ t b := by simp [oZ]

theorem MW {t : Int} (ht : t < 1125899906842624) : ∀ {gs : List (List aG × List aA)}, (∀ g ∈ gs, dO g.2 = true ∧ ∀ t, 0 ≤ val g.2 t) → nZ t (dU gs) = dU (gs.map fun g => (g.1, mF t g.2))
  | [], _ => rfl
  | g :: gs, h => by
    rw [qY, VT, aBw (h g (by simp)).1 (h g (by simp)).2 ht, MW ht fun x hx => h x (by simp [hx])]
    rfl

theorem NN {t : Int} (ht : t < 1125899906842624) : ∀ {gs : List (List aG × List aA)}, (∀ g ∈ gs, dO g.2 = true ∧ ∀ t, 0 ≤ val g.2 t) → oZ t (dU gs) = dU (gs.map fun g => (g.1, uH t g.2))
  | [], _ => rfl
  | g :: gs, h => by
    rw [qY, VQ, aBN (h g (by simp)).1 (h g (by simp)).2 ht, NN ht fun x hx => h x (by simp [hx])]
    rfl

theorem XI {g : List aG × List aA} : ∀ {gs : List (List aG × List aA)}, g ∈ gs → cY g.2 ≤ gZ gs
  | [], h => by simp at h
  | x :: gs, h => by
    rw [vX]
    rcases List.mem_cons.1 h with rfl | h
    · have := yR gs; omega
    · have := XI h; have := mY x.2; omega

theorem BZ {h : List aA → List aA} : ∀ {gs : List (List aG × List aA)}, (∀ g ∈ gs, ((h g.2).length : Int) ≤ 3 * cY g.2) → ((flat (gs.map fun g => (g.1, h g.2))).length : Int) ≤ 3 * gZ gs
  | [], _ => by simp [flat, gZ]
  | g :: gs, hh => by
    have h1 := hh g (by simp)
    have h2 := BZ (gs := gs) fun x hx => hh x (by simp [hx])
    rw [List.map_cons, sQ, List.length_append, aA6, vX]
    simp only
    omega

theorem YH {L : List aC} (hT : pE L = true) (hn : gZ (groups L) ≤ 500) {t : Int} (h0 : 0 ≤ t) (ht : t < 1125899906842624) :
    AO L t = (flat ((groups L).map fun g => (g.1, mF t g.2)), 0) ∧ sK (flat ((groups L).map fun g => (g.1, mF t g.2))) = (nZ t (dU (groups L)), 0) ∧ jL (nZ t (dU (groups L))) = (nZ t (dU (groups L)), 0) ∧ jL (oZ t (dU (groups L))) = (oZ t (dU (groups L)), 0) := by
  have hm := (mU.1 hT).1
  obtain ⟨_, hg, hs⟩ := oD hm
  have hg2 := fun g (h : g ∈ groups L) => qA hT h
  have hmo := fun g (h : g ∈ groups L) => XI h
  have hfull := JZ L
  have lenA : ∀ g ∈ groups L, ((mF t g.2).length : Int) ≤ 3 * cY g.2 := by
    intro g h
    have hr := (dV.1 (hg2 g h).1).2
    have hv := rA (hg2 g h).1 (hg2 g h).2
    have h1 := CK hr hv
    have h2 := UR hr hv (hfull g h)
    have h3 := GI t g.2
    unfold mF
    rw [List.length_append]
    split <;> simp only [List.length_nil, List.length_cons] <;> omega
  have lenR : ∀ g ∈ groups L, ((uH t g.2).length : Int) ≤ 3 * cY g.2 := by
    intro g h
    have hr := (dV.1 (hg2 g h).1).2
    have hv := rA (hg2 g h).1 (hg2 g h).2
    have h1 := CK hr hv
    have h2 := UR hr hv (hfull g h)
    have h3 : (aft (t + 1) g.2).length ≤ g.2.length := by
      have := congrArg List.length (xV (t + 1) g.2)
      rw [List.length_append] at this
      omega
    unfold uH
    rw [List.length_append]
    split <;> simp only [List.length_nil, List.length_cons] <;> omega
  have srt : ∀ h : List aA → List aA, qF ((groups L).map fun g => (g.1, h g.2)) := fun h => by rw [qF, List.pairwise_map]; exact hs
  have mA : ∀ g ∈ (groups L).map fun g => (g.1, mF t g.2), nD g.1 = true ∧ dO g.2 = true := by
    intro g h
    obtain ⟨x, hx, rfl⟩ := List.mem_map.1 h
    exact ⟨(hg x hx).1, NC (hg2 x hx).1 (hg2 x hx).2 h0 ht (by have := hmo x hx; omega)⟩
  have mR : ∀ g ∈ (groups L).map fun g => (g.1, uH t g.2), nD g.1 = true ∧ dO g.2 = true := by
    intro g h
    obtain ⟨x, hx, rfl⟩ := List.mem_map.1 h
    exact ⟨(hg x hx).1, aA7 (hg2 x hx).1 (hg2 x hx).2 h0 ht (by have := hmo x hx; omega)⟩
  have vA : ∀ g ∈ (groups L).map fun g => (g.1, mF t g.2), ∀ s, 0 ≤ val g.2 s := by
    intro g h s
    obtain ⟨x, hx, rfl⟩ := List.mem_map.1 h
    simp only
    rw [XX (hg2 x hx).1]
    split
    · exact (hg2 x hx).2 s
    · exact Int.le_refl _
  have vR : ∀ g ∈ (groups L).map fun g => (g.1, uH t g.2), ∀ s, 0 ≤ val g.2 s := by
    intro g h s
    obtain ⟨x, hx, rfl⟩ := List.mem_map.1 h
    simp only
    rw [aAY (hg2 x hx).1]
    split
    · exact Int.le_refl _
    · exact (hg2 x hx).2 s
  have eA := MW ht hg2
  have eR := NN ht hg2
  have fl := sP (groups L)
  have nA : gZ ((groups L).map fun g => (g.1, mF t g.2)) ≤ 500 := by
    rw [← sP, ← eA]
    have := GG t (dU (groups L))
    omega
  have nR : gZ ((groups L).map fun g => (g.1, uH t g.2)) ≤ 500 := by
    rw [← sP, ← eR]
    have := FA t (dU (groups L))
    omega
  have lA := BZ (h := mF t) lenA
  have lR := BZ (h := uH t) lenR
  obtain ⟨a1, a2⟩ := KL (srt _) mA vA (by omega) (by omega)
  obtain ⟨_, b2⟩ := KL (srt _) mR vR (by omega) (by omega)
  refine ⟨?_, by rw [a1, eA], by rw [eA]; exact a2, by rw [eR]; exact b2⟩
  unfold AO BA
  rw [if_pos hm]
  have key : ∀ g ∈ groups L, ahead g.2 t = (mF t g.2, 0) := by
    intro g h
    unfold ahead told
    rw [if_pos (hg2 g h).1, if_neg (by omega), if_pos (NC (hg2 g h).1 (hg2 g h).2 h0 ht (by have := hmo g h; omega))]
  have hR : sL (fun f => ahead f t) (groups L) = (groups L).map fun g => (g.1, mF t g.2) := List.map_congr_left fun g h => by simp only [key g h]
  have := FZ (by1 := fun f => ahead f t) (gs := groups L) (out := []) (fun g h => by rw [key g h]) (by rw [hR]; simp only [List.nil_append]; omega)
  rw [this, hR]
  rfl

end Go.Abs
namespace Go.Abs
open Go
theorem IA {l : List aI} (h : ∀ p ∈ l, oO p = true) : nZ 1125899906842624 l = l := by
  induction l with
  | nil => rfl
  | cons p l ih =>
    have hp := h p (by simp)
    unfold oO at hp
    rw [Bool.and_eq_true, AQ] at hp
    rw [DG, ih fun q hq => h q (by simp [hq])]
    unfold rJ
    rw [if_pos (by omega), if_neg (by omega)]
    rfl

theorem TW {l : List aI} (h : ∀ p ∈ l, oO p = true) : oZ 1125899906842624 l = [] := by
  induction l with
  | nil => rfl
  | cons p l ih =>
    have hp := h p (by simp)
    unfold oO at hp
    rw [Bool.and_eq_true, AQ] at hp
    rw [DA, ih fun q hq => h q (by simp [hq])]
    unfold rF
    rw [if_neg (by omega)]
    rfl

theorem aA3 : jL [] = ([], 0) := by decide +kernel

theorem OT {l : List aC} (hm : oU l = true) : AO l 1125899906842624 = (l, 0) := by
  unfold AO BA
  rw [if_pos hm]
  obtain ⟨hl, hg, _⟩ := oD hm
  have key : ∀ g ∈ groups l, ahead g.2 1125899906842624 = (g.2, 0) := by
    intro g h
    unfold ahead
    rw [if_pos (hg g h).2, if_pos (Int.le_refl _)]
  have hR : sL (fun f => ahead f 1125899906842624) (groups l) = groups l := by
    unfold sL
    conv => rhs; rw [← List.map_id (groups l)]
    exact List.map_congr_left fun g h => by simp only [key g h]; rfl
  have := FZ (by1 := fun f => ahead f 1125899906842624) (gs := groups l) (out := []) (fun g h => by rw [key g h]) (by rw [hR, rP]; simpa using hl)
  rw [this, hR, rP]
  rfl

theorem HH {l : List aC} (ht : pE l = true) (hm : gZ (groups l) ≤ 4096) : sK l = (dU (groups l), 0) := by
  unfold sK
  have : decide (4096 < gZ (groups l)) = false := by simp; omega
  rw [(mU.1 ht).1, ht, this]
  rfl

theorem SF {L : List aC} (hT : pE L = true) (hn : gZ (groups L) ≤ 500) {t : Int} (h0 : 0 ≤ t) (ht : t ≤ 1125899906842624) :
    ∃ A, AO L t = (A, 0) ∧ okL A ∧ sK A = (nZ t (dU (groups L)), 0) ∧ jL (nZ t (dU (groups L))) = (nZ t (dU (groups L)), 0) ∧ jL (oZ t (dU (groups L))) = (oZ t (dU (groups L)), 0) := by
  have hm := (mU.1 hT).1
  have okL : okL L := ⟨by have := (oD hm).1; omega, fun e he => by have := (JO ((TQ.1 hm).2.1 e he).1).1; omega⟩
  by_cases h : t < 1125899906842624
  · obtain ⟨a, b, c, d⟩ := YH hT hn h0 h
    exact ⟨_, a, by have := YB okL t; rw [a] at this; exact this, b, c, d⟩
  · have : t = 1125899906842624 := by omega
    subst this
    have hmay : ∀ p ∈ dU (groups L), oO p = true := fun p hp => DB hT hp
    refine ⟨L, OT hm, okL, ?_, ?_, ?_⟩
    · rw [IA hmay]; exact HH hT (by omega)
    · rw [IA hmay]
      unfold jL
      rw [CC hT (by omega)]
      simpa using HH hT (by omega)
    · rw [TW hmay]; exact aA3

theorem OE (l0 : (List aI)) (m0 : ∀ a ∈ l0, uP a) (y0 : List.length l0 * 40 ≤ 140737488351232) (a1 : Int) (w1 : DV a1) : rT l0 a1 = some true := by
  have k0 := aCJ m0 y0
  unfold rT
  cases c : (((decide ((500 : Int) < ((List.length l0 : Nat) : Int))) || (decide (a1 < (0 : Int)))) || (decide ((1125899906842624 : Int) < a1)))
  · simp only [Bool.or_eq_false_iff, decide_eq_false_iff_not] at c
    obtain ⟨⟨c1, c2⟩, c3⟩ := c
    have hn : l0.length ≤ 1099511627776 := by omega
    rw [cond_false, CI k0 hn]
    simp only [Option.bind_some]
    by_cases e : (jL l0).2 = 0
    · obtain ⟨e1, e2, e3, e4⟩ := KY e
      have hok := ZZ e
      have hle := VD e
      have hT := uU e1
      have hmo := DP e1
      obtain ⟨A, s1, s2, s3, s4, s5⟩ := SF hT (by omega) (show 0 ≤ a1 by omega) (show a1 ≤ 1125899906842624 by omega)
      have hP : (jL l0).1 = dU (groups (dZ l0).1) := by rw [e2]
      rw [← hP] at s3 s4 s5
      have kA := aBL (t := a1) hok
      have kR := aBj (t := a1) hok
      have lA := GG a1 (jL l0).1
      have lR := FA a1 (jL l0).1
      simp only [e, decide_true, Bool.not_true, cond_false]
      rw [QK hok (by omega), e3]
      simp only [Option.bind_some]
      rw [aAd (NA k0), s1]
      simp only [Option.bind_some]
      rw [QX s2, s3]
      simp only [Option.bind_some]
      rw [SG hok]
      simp only [Option.bind_some]
      rw [CI kA (by omega), s4]
      simp only [Option.bind_some]
      rw [WL hok]
      simp only [Option.bind_some]
      rw [CI kR (by omega), s5]
      simp [cV, IJ, DX kA, DX kR]
    · simp [IJ, e]
  · simp [IJ]

end Go.Abs
