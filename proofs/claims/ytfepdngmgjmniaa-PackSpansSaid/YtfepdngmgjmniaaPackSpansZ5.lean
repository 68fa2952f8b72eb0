/- What the law PackSpans stands on: the framework, the given functions as plain functions, their walks, and the plain laws; part 5. -/
import Derived.Test.YtfepdngmgjmniaaPackSpansZ4
set_option linter.unusedSimpArgs false
set_option linter.unusedVariables false
namespace Go.Abs
open Go
variable {α : Type} [Inhabited α] {ok : α → Prop} {le : α → α → Prop} {cmp : α → α → Option Int}
theorem UY (C : Cmp ok le cmp) {P A B S d : List α} {a m b : Int} (hd : d = P ++ A ++ B ++ S) (hA : A ≠ []) (hB : B ≠ []) (oA : Oks ok A) (oB : Oks ok B) (sA : Srt le A) (sB : Srt le B)
    (ha : a = (P.length : Nat)) (hm : m = ((P.length + A.length : Nat) : Int)) (hb : b = ((P.length + A.length + B.length : Nat) : Int)) (hl : d.length ≤ 1099511627776) :
    ∃ D, D.Perm (A ++ B) ∧ Srt le D ∧ oD d a m b cmp = some (P ++ D ++ S) := by
  subst hd
  unfold oD
  obtain ⟨r, hr⟩ := (HB C (A.length + B.length) P A B S a m b hA hB oA oB sA sB ha hm hb hl).2 (Nat.le_refl _)
  obtain ⟨r', hr'⟩ := TJ (g := fun k => eA cmp k (P ++ A ++ B ++ S) a m b) ⟨_, r, hr⟩
  obtain ⟨k, hk⟩ := EI hr'
  obtain ⟨D, d1, d2, rfl⟩ := (HB C k P A B S a m b hA hB oA oB sA sB ha hm hb hl).1 r' hk
  exact ⟨D, d1, d2, hr'⟩

inductive mV {β : Type} (le : β → β → Prop) (n : Nat) : List β → Prop
  | last {l : List β} : l.length ≤ n → Srt le l → mV le n l
  | cons {x l : List β} : x.length = n → Srt le x → mV le n l → mV le n (x ++ l)

theorem mV.srt {β : Type} {le : β → β → Prop} {n : Nat} {l : List β} (h : mV le n l) (hl : l.length ≤ n) : Srt le l := by
  cases h with
  | last _ h => exact h
  | cons hx hs hr =>
    rename_i x r
    have : r = [] := List.length_eq_zero_iff.1 (by simp only [List.length_append] at hl; omega)
    subst this; simpa using hs

theorem mV.split {β : Type} {le : β → β → Prop} {n : Nat} {l : List β} (h : mV le n l) (hl : n < l.length) : ∃ x r, l = x ++ r ∧ x.length = n ∧ Srt le x ∧ mV le n r := by
  cases h with
  | last h' _ => omega
  | cons hx hs hr => exact ⟨_, _, rfl, hx, hs, hr⟩

theorem mV.aAl {β : Type} {le : β → β → Prop} {n : Nat} {l : List β} (hn : 0 < n) (h : mV le n l) (hl : 2 * n ≤ l.length) : ∃ x y r, l = x ++ y ++ r ∧ x.length = n ∧ y.length = n ∧ Srt le x ∧ Srt le y ∧ mV le n r := by
  obtain ⟨x, r, rfl, h1, h2, h3⟩ := h.split (by omega)
  simp only [List.length_append] at hl
  by_cases he : r.length = n
  · exact ⟨x, r, [], by simp, h1, he, h2, h3.srt (by omega), mV.last (by simp) List.Pairwise.nil⟩
  · obtain ⟨y, r', rfl, e1, e2, e3⟩ := h3.split (by omega)
    exact ⟨x, y, r', by simp, h1, e1, h2, e2, e3⟩

theorem Oks.perm {β : Type} {ok : β → Prop} {l l' : List β} (h : Oks ok l) (hp : l'.Perm l) : Oks ok l' := fun x hx => h x (hp.mem_iff.1 hx)

theorem aAo (C : Cmp ok le cmp) {n1 : Int} : ∀ (n : Nat) (F G : List α), G.length ≤ n → Oks ok G → n1 = ((F.length + G.length : Nat) : Int) → (F ++ G).length ≤ 1099511627776 →
    ∃ G1 G2, (G1 ++ G2).Perm G ∧ G2.length < 20 ∧ (∀ H, H.length ≤ 20 → Srt le H → mV le 20 (G1 ++ H)) ∧
      lp (fun s : List α × Int × Int => mB cmp n1 20 s.1 s.2.1 s.2.2) (F ++ G, ((F.length : Nat) : Int), ((F.length + 20 : Nat) : Int)) = some (F ++ G1 ++ G2, ((F.length + G1.length : Nat) : Int)) := by
  intro n
  induction n with
  | zero =>
    intro F G hn hG h1 hl
    refine ⟨[], G, by simp, by omega, fun H h2 h3 => mV.last (by simpa using h2) (by simpa using h3), ?_⟩
    rw [cM (r := (F ++ G, ((F.length : Nat) : Int)))]
    · simp
    · have : decide (((F.length + 20 : Nat) : Int) ≤ n1) = false := by subst h1; simp; omega
      simp only [mB, this, cond_false]
  | succ n ih =>
    intro F G hn hG h1 hl
    by_cases hg : G.length < 20
    · refine ⟨[], G, by simp, by omega, fun H h2 h3 => mV.last (by simpa using h2) (by simpa using h3), ?_⟩
      rw [cM (r := (F ++ G, ((F.length : Nat) : Int)))]
      · simp
      · have : decide (((F.length + 20 : Nat) : Int) ≤ n1) = false := by subst h1; simp; omega
        simp only [mB, this, cond_false]
    · obtain ⟨X, R, rfl, hX⟩ : ∃ X R, G = X ++ R ∧ X.length = 20 := ⟨G.take 20, G.drop 20, (List.take_append_drop _ _).symm, by rw [List.length_take]; omega⟩
      simp only [List.length_append] at hn hl h1 hg
      obtain ⟨D, d1, d2, d3⟩ := VY C (P := F) (A := X) (T := R) (a := ((F.length : Nat) : Int)) (b := ((F.length + 20 : Nat) : Int)) rfl (by rw [hX]) (fun x hx => hG x (by simp [hx])) (by simp only [List.length_append]; omega)
      have hD : D.length = 20 := by rw [d1.length_eq, hX]
      obtain ⟨G1, G2, g1, g2, g3, g4⟩ := ih (F ++ D) R (by omega) (fun x hx => hG x (by simp [hx])) (by rw [h1]; simp only [List.length_append]; congr 1; omega) (by simp only [List.length_append]; omega)
      refine ⟨D ++ G1, G2, ?_, g2, fun H h2 h3 => ?_, ?_⟩
      · have := d1.append g1
        simpa using this
      · rw [List.append_assoc]; exact mV.cons hD d2 (g3 H h2 h3)
      · have hb : (fun s : List α × Int × Int => mB cmp n1 20 s.1 s.2.1 s.2.2) (F ++ (X ++ R), ((F.length : Nat) : Int), ((F.length + 20 : Nat) : Int)) = some (.inl (F ++ D ++ R, (((F ++ D).length : Nat) : Int), (((F ++ D).length + 20 : Nat) : Int))) := by
          show mB cmp n1 20 _ _ _ = _
          have : decide (((F.length + 20 : Nat) : Int) ≤ n1) = true := by subst h1; simp; omega
          simp only [mB, this, cond_true]
          rw [show F ++ (X ++ R) = F ++ X ++ R by simp, d3]
          simp only [Option.bind_some, List.length_append, hD]
          rw [wr (by omega) (by omega)]
          congr 1
        rw [dO hb, g4]
        simp only [List.length_append, List.append_assoc]
        congr 2
        congr 1; omega

theorem aAu (C : Cmp ok le cmp) {n1 : Int} {bs : Nat} (hbs : 0 < bs) (hbs' : bs ≤ 1099511627776) : ∀ (n : Nat) (F G : List α), G.length ≤ n → Oks ok G → mV le bs G → n1 = ((F.length + G.length : Nat) : Int) → (F ++ G).length ≤ 1099511627776 →
    ∃ G1 G2, (G1 ++ G2).Perm G ∧ G2.length < 2 * bs ∧ mV le bs G2 ∧ (∀ H, H.length ≤ 2 * bs → Srt le H → mV le (2 * bs) (G1 ++ H)) ∧
      lp (fun s : List α × Int × Int => mE cmp n1 (bs : Int) s.1 s.2.1 s.2.2) (F ++ G, ((F.length : Nat) : Int), ((F.length + 2 * bs : Nat) : Int)) = some (F ++ G1 ++ G2, ((F.length + G1.length : Nat) : Int)) := by
  have stop : ∀ (F G : List α), mV le bs G → G.length < 2 * bs → n1 = ((F.length + G.length : Nat) : Int) → ∃ G1 G2, (G1 ++ G2).Perm G ∧ G2.length < 2 * bs ∧ mV le bs G2 ∧ (∀ H, H.length ≤ 2 * bs → Srt le H → mV le (2 * bs) (G1 ++ H)) ∧
      lp (fun s : List α × Int × Int => mE cmp n1 (bs : Int) s.1 s.2.1 s.2.2) (F ++ G, ((F.length : Nat) : Int), ((F.length + 2 * bs : Nat) : Int)) = some (F ++ G1 ++ G2, ((F.length + G1.length : Nat) : Int)) := by
    intro F G hG hg h1
    refine ⟨[], G, by simp, hg, hG, fun H h2 h3 => mV.last (by simpa using h2) (by simpa using h3), ?_⟩
    rw [cM (r := (F ++ G, ((F.length : Nat) : Int)))]
    · simp
    · have : decide (((F.length + 2 * bs : Nat) : Int) ≤ n1) = false := by subst h1; simp; omega
      show mE cmp n1 _ _ _ _ = _
      simp only [mE, this, cond_false]
  intro n
  induction n with
  | zero => intro F G hn _ hB h1 _; exact stop F G hB (by omega) h1
  | succ n ih =>
    intro F G hn hG hB h1 hl
    by_cases hg : G.length < 2 * bs
    · exact stop F G hB hg h1
    · obtain ⟨x, y, R, rfl, x1, y1, sx, sy, hR⟩ := hB.aAl hbs (by omega)
      simp only [List.length_append] at hn hl h1 hg
      obtain ⟨D, d1, d2, d3⟩ := UY C (P := F) (A := x) (B := y) (S := R) (d := F ++ (x ++ y ++ R)) (a := ((F.length : Nat) : Int)) (m := ((F.length + bs : Nat) : Int)) (b := ((F.length + 2 * bs : Nat) : Int)) (by simp) (fun h => by rw [h] at x1; simp at x1; omega) (fun h => by rw [h] at y1; simp at y1; omega)
        (fun z hz => hG z (by simp [hz])) (fun z hz => hG z (by simp [hz])) sx sy rfl (by rw [x1]) (by rw [x1, y1]; congr 1; omega) (by simp only [List.length_append]; omega)
      have hD : D.length = 2 * bs := by rw [d1.length_eq]; simp only [List.length_append]; omega
      obtain ⟨G1, G2, g1, g2, g3, g4, g5⟩ := ih (F ++ D) R (by omega) (fun z hz => hG z (by simp [hz])) hR (by rw [h1]; simp only [List.length_append]; congr 1; omega) (by simp only [List.length_append]; omega)
      refine ⟨D ++ G1, G2, ?_, g2, g3, fun H h2 h3 => ?_, ?_⟩
      · have := d1.append g1
        simpa using this
      · rw [List.append_assoc]; exact mV.cons hD d2 (g4 H h2 h3)
      · have hb : (fun s : List α × Int × Int => mE cmp n1 (bs : Int) s.1 s.2.1 s.2.2) (F ++ (x ++ y ++ R), ((F.length : Nat) : Int), ((F.length + 2 * bs : Nat) : Int)) = some (.inl (F ++ D ++ R, (((F ++ D).length : Nat) : Int), (((F ++ D).length + 2 * bs : Nat) : Int))) := by
          show mE cmp n1 _ _ _ _ = _
          have : decide (((F.length + 2 * bs : Nat) : Int) ≤ n1) = true := by subst h1; simp; omega
          have w1 : IntKind.i64.wrap (((F.length : Nat) : Int) + (bs : Int)) = ((F.length + bs : Nat) : Int) := by rw [wr (by omega) (by omega)]; omega
          have w2 : IntKind.i64.wrap (2 * (bs : Int)) = 2 * (bs : Int) := wr (by omega) (by omega)
          have w3 : IntKind.i64.wrap (((F.length + 2 * bs : Nat) : Int) + 2 * (bs : Int)) = ((F.length + 2 * bs + 2 * bs : Nat) : Int) := by rw [wr (by omega) (by omega)]; omega
          simp only [mE, this, cond_true, w1, w2, w3, d3, Option.bind_some, List.length_append, hD]
        rw [dO hb, g5]
        simp only [List.length_append, List.append_assoc]
        congr 2
        congr 1; omega

theorem TI (C : Cmp ok le cmp) {d : List α} {bs : Nat} (hbs : 0 < bs) (hbs' : bs < d.length) (ho : Oks ok d) (hB : mV le bs d) (hl : d.length ≤ 1099511627776) :
    ∃ r, r.Perm d ∧ mV le (2 * bs) r ∧ jJ cmp ((d.length : Nat) : Int) d (bs : Int) = some (.inl (r, ((2 * bs : Nat) : Int))) := by
  obtain ⟨G1, G2, g1, g2, g3, g4, g5⟩ := aAu C (n1 := ((d.length : Nat) : Int)) hbs (by omega) d.length [] d (Nat.le_refl _) ho hB (by simp) (by simpa using hl)
  have hlen := g1.length_eq
  simp only [List.length_append] at hlen
  have w2 : IntKind.i64.wrap (2 * (bs : Int)) = ((2 * bs : Nat) : Int) := by rw [wr (by omega) (by omega)]; omega
  have w4 : IntKind.i64.wrap ((bs : Int) * 2) = ((2 * bs : Nat) : Int) := by rw [wr (by omega) (by omega)]; omega
  have hlt : decide ((bs : Int) < ((d.length : Nat) : Int)) = true := by simp; omega
  simp only [List.nil_append, List.length_nil, Nat.zero_add, Int.natCast_zero] at g5
  have w1 : IntKind.i64.wrap (((G1.length : Nat) : Int) + (bs : Int)) = ((G1.length + bs : Nat) : Int) := by rw [wr (by omega) (by omega)]; omega
  by_cases hg : bs < G2.length
  · obtain ⟨x, y, rfl, x1, sx, hy⟩ := g3.split hg
    simp only [List.length_append] at g2 hg hlen
    have sy : Srt le y := hy.srt (by omega)
    have og : Oks ok (G1 ++ (x ++ y)) := ho.perm g1
    obtain ⟨D, d1, d2, d3⟩ := UY C (P := G1) (A := x) (B := y) (S := []) (d := G1 ++ (x ++ y)) (a := ((G1.length : Nat) : Int)) (m := ((G1.length + bs : Nat) : Int)) (b := ((d.length : Nat) : Int)) (by simp) (fun h => by rw [h] at x1; simp at x1; omega) (fun h => by rw [h] at hg; simp at hg; omega)
      (fun z hz => og z (by simp [hz])) (fun z hz => og z (by simp [hz])) sx sy rfl (by rw [x1]) (by congr 1; omega) (by simp only [List.length_append]; omega)
    refine ⟨G1 ++ D, ?_, ?_, ?_⟩
    · exact (d1.append_left G1).trans g1
    · exact g4 D (by rw [d1.length_eq]; simp only [List.length_append]; omega) d2
    · have hc : decide (((G1.length + bs : Nat) : Int) < ((d.length : Nat) : Int)) = true := by simp; omega
      simp only [jJ, hlt, cond_true, w2, uS, g5, Option.bind_some, vD, w1, hc, d3, yA, w4]
      simp
  · refine ⟨G1 ++ G2, g1, g4 G2 (by omega) (g3.srt (by omega)), ?_⟩
    have hc : decide (((G1.length + bs : Nat) : Int) < ((d.length : Nat) : Int)) = false := by simp; omega
    simp only [jJ, hlt, cond_true, w2, uS, g5, Option.bind_some, vD, w1, hc, cond_false, yA, w4]

theorem VE (C : Cmp ok le cmp) : ∀ (n : Nat) (d : List α) (bs : Nat), d.length - bs ≤ n → 0 < bs → Oks ok d → mV le bs d → d.length ≤ 1099511627776 →
    ∃ r, r.Perm d ∧ Srt le r ∧ lp (fun s : List α × Int => jJ cmp ((d.length : Nat) : Int) s.1 s.2) (d, (bs : Int)) = some r := by
  have stop : ∀ (d : List α) (bs : Nat), d.length ≤ bs → mV le bs d → ∃ r, r.Perm d ∧ Srt le r ∧ lp (fun s : List α × Int => jJ cmp ((d.length : Nat) : Int) s.1 s.2) (d, (bs : Int)) = some r := by
    intro d bs h hB
    refine ⟨d, List.Perm.refl _, hB.srt h, cM ?_⟩
    show jJ cmp _ _ _ = _
    have : decide ((bs : Int) < ((d.length : Nat) : Int)) = false := by simp; omega
    simp only [jJ, this, cond_false]
  intro n
  induction n with
  | zero => intro d bs hn _ _ hB _; exact stop d bs (by omega) hB
  | succ n ih =>
    intro d bs hn hbs ho hB hl
    by_cases h : d.length ≤ bs
    · exact stop d bs h hB
    · obtain ⟨r, r1, r2, r3⟩ := TI C hbs (by omega) ho hB hl
      obtain ⟨r', e1, e2, e3⟩ := ih r (2 * bs) (by rw [r1.length_eq]; omega) (by omega) (ho.perm r1) r2 (by rw [r1.length_eq]; exact hl)
      rw [r1.length_eq] at e3
      refine ⟨r', e1.trans r1, e2, ?_⟩
      rw [dO (show (fun s : List α × Int => jJ cmp ((d.length : Nat) : Int) s.1 s.2) (d, (bs : Int)) = _ from r3)]
      exact e3

theorem LN (C : Cmp ok le cmp) {d : List α} (ho : Oks ok d) (hl : d.length ≤ 1099511627776) : ∃ r, r.Perm d ∧ Srt le r ∧ wH d ((d.length : Nat) : Int) cmp = some r := by
  obtain ⟨G1, G2, g1, g2, g3, g4⟩ := aAo C (n1 := ((d.length : Nat) : Int)) d.length [] d (Nat.le_refl _) ho (by simp) (by simpa using hl)
  have hlen := g1.length_eq
  simp only [List.length_append] at hlen
  have og := ho.perm g1
  obtain ⟨D, d1, d2, d3⟩ := VY C (P := G1) (A := G2) (T := []) (a := ((G1.length : Nat) : Int)) (b := ((d.length : Nat) : Int)) rfl (by congr 1; omega) (fun z hz => og z (by simp [hz])) (by simp only [List.length_append, List.length_nil]; omega)
  have hp : (G1 ++ D).Perm d := (d1.append_left G1).trans g1
  obtain ⟨r, r1, r2, r3⟩ := VE C (G1 ++ D).length (G1 ++ D) 20 (by omega) (by omega) (ho.perm hp) (g3 D (by rw [d1.length_eq]; omega) d2) (by rw [hp.length_eq]; exact hl)
  refine ⟨r, r1.trans hp, r2, ?_⟩
  simp only [List.nil_append, List.length_nil, Nat.zero_add, Int.natCast_zero] at g4
  unfold wH yD
  have g4' : lp (fun s : List α × Int × Int => mB cmp ((d.length : Nat) : Int) 20 s.1 s.2.1 s.2.2) (d, (0 : Int), (20 : Int)) = some (G1 ++ G2, ((G1.length : Nat) : Int)) := g4
  rw [g4']
  simp only [Option.bind_some, yB]
  rw [show G1 ++ G2 = G1 ++ G2 ++ [] by simp, d3]
  simp only [Option.bind_some, yC, List.append_nil]
  rw [hp.length_eq] at r3
  have r3' : lp (fun s : List α × Int => jJ cmp ((d.length : Nat) : Int) s.1 s.2) (G1 ++ D, (20 : Int)) = some r := r3
  rw [r3']; rfl

end Go.Abs
namespace Go.Abs
open Go
def BA (n : Int) : Bool := decide (n ≤ 1048576) && decide (-1048576 ≤ n)

theorem RP (n : Int) : uZ n = some (BA n) := rfl

def uL (last : Int) (j : aB) : Bool := decide (j.At ≤ last) || decide (1125899906842624 ≤ j.At) || decide (j.Net = 0) || !BA j.Net

def chk (last : Int) : List aB → Bool
  | [] => true
  | j :: r => !uL last j && chk j.At r

def iX (f : List aB) : Bool := decide (f.length ≤ 1024) && chk (-2) f

theorem NA {f : List aB} {i : Nat} {a : aB} {last : Int} (ha : f[i]? = some a) (hl : f.length < 4611686018427387904) :
    mD f (f.length : Nat) last i = some (if uL last a then .inr (.inr false) else .inl (a.At, ((i + 1 : Nat) : Int))) := by
  obtain ⟨d1, d2, d3, d4⟩ := idx ha hl
  simp only [mD, d1, cond_true, bE d2, d3, d4, RP]
  unfold uL
  cases h : (decide (a.At ≤ last) || decide (1125899906842624 ≤ a.At) || decide (a.Net = 0)) <;> cases h2 : BA a.Net <;> simp [dF]

theorem NB : ∀ (f : List aB) (last : Int), vG (fun last (j : aB) => some (if uL last j then .inr (.inr false) else .inl j.At)) (fun _ => (.inl () : Unit ⊕ Bool)) last f = some (if chk last f then .inl () else .inr false)
  | [], last => by simp [vG, chk]
  | j :: r, last => by
    cases h : uL last j
    · rw [SV (s' := j.At) (by simp [h])]
      rw [NB r j.At]
      simp [chk, h]
    · rw [UA (x := .inr false) (by simp [h])]
      simp [chk, h]

theorem ES (f : List aB) : nL f = some (iX f) := by
  unfold nL iX
  by_cases hl : f.length ≤ 1024
  · have h1 : decide ((1024 : Int) < ((f.length : Nat) : Int)) = false := by simp; omega
    rw [h1, cond_false]
    unfold xV
    have key := XI (l := f) (body := fun s : Int × Int => mD f (f.length : Nat) s.1 s.2) (fun last i => (last, i)) _ _
      (fun i a s ha => by
        constructor
        · intro s' hs
          show mD f (f.length : Nat) s i = _
          rw [NA ha (by omega)]
          split at hs <;> simp_all
        · intro x hs
          show mD f (f.length : Nat) s i = _
          rw [NA ha (by omega)]
          split at hs <;> simp_all)
      (fun s => by show mD f (f.length : Nat) s (f.length : Nat) = _; simp only [mD, gN, cond_false]) (NB f (-2))
    rw [key]
    cases h : chk (-2) f <;> simp [vB, hl]
  · have h1 : decide ((1024 : Int) < ((f.length : Nat) : Int)) = true := by simp; omega
    rw [h1, cond_true]
    simp [hl]

theorem zK {last : Int} {j : aB} : uL last j = false ↔ last < j.At ∧ j.At < 1125899906842624 ∧ j.Net ≠ 0 ∧ j.Net ≤ 1048576 ∧ -1048576 ≤ j.Net := by
  simp [uL, BA]
  omega

def xB (last : Int) : List aB → Prop
  | [] => True
  | j :: r => (last < j.At ∧ j.At < 1125899906842624 ∧ j.Net ≠ 0 ∧ j.Net ≤ 1048576 ∧ -1048576 ≤ j.Net) ∧ xB j.At r

theorem RW : ∀ {f : List aB} {last : Int}, chk last f = true ↔ xB last f
  | [], last => by simp [chk, xB]
  | j :: r, last => by simp [chk, xB, zK, RW]

theorem pE {f : List aB} : iX f = true ↔ f.length ≤ 1024 ∧ xB (-2) f := by simp [iX, RW]

theorem xB.above : ∀ {f : List aB} {last : Int}, xB last f → ∀ j ∈ f, last < j.At ∧ j.At < 1125899906842624 ∧ j.Net ≠ 0 ∧ j.Net ≤ 1048576 ∧ -1048576 ≤ j.Net
  | [], _, _, j, hj => by simp at hj
  | a :: r, last, h, j, hj => by
    rcases List.mem_cons.1 hj with rfl | hj
    · exact h.1
    · have := h.2.above j hj
      have h1 := h.1.1
      exact ⟨by omega, this.2⟩

def val (f : List aB) (t : Int) : Int := (f.map fun j => if j.At ≤ t then j.Net else 0).sum

theorem wG (t : Int) : val [] t = 0 := rfl

theorem dB (j : aB) (r : List aB) (t : Int) : val (j :: r) t = (if j.At ≤ t then j.Net else 0) + val r t := by simp [val]

theorem ID (f g : List aB) (t : Int) : val (f ++ g) t = val f t + val g t := by simp [val]

theorem yI {f : List aB} {t : Int} (h : ∀ j ∈ f, t < j.At) : val f t = 0 := by
  induction f with
  | nil => rfl
  | cons j r ih =>
    rw [dB, ih (fun k hk => h k (List.mem_cons_of_mem _ hk))]
    have := h j (List.mem_cons_self ..)
    rw [if_neg (by omega)]; rfl

theorem ZW (f : List aB) : sO f = some (if iX f then (f, 0) else ([], 7)) := by
  unfold sO
  rw [ES]
  cases h : iX f <;> simp

end Go.Abs
namespace Go.Abs
open Go
section both
variable {op : Int → Int → Option Int} {f g r : List aB} {out : List aB} {a b was t : Int} {j : aB}
end both
def emit (p v was : Int) : List aB := if v = was then [] else [⟨p, v - was⟩]

def xY (was : Int) : List (Int × Int) → List aB
  | [] => []
  | x :: r => emit x.1 x.2 was ++ xY x.2 r

def merge (f g : List aB) (a b : Int) : List (Int × Int × Int) :=
  match f, g with
  | [], [] => []
  | j :: f, [] => (j.At, a + j.Net, b) :: merge f [] (a + j.Net) b
  | [], k :: g => (k.At, a, b + k.Net) :: merge [] g a (b + k.Net)
  | j :: f, k :: g =>
    if j.At < k.At then (j.At, a + j.Net, b) :: merge f (k :: g) (a + j.Net) b
    else if k.At < j.At then (k.At, a, b + k.Net) :: merge (j :: f) g a (b + k.Net)
    else (j.At, a + j.Net, b + k.Net) :: merge f g (a + j.Net) (b + k.Net)

termination_by f.length + g.length
end Go.Abs
namespace Go.Abs
open Go
def comb (OP : Int → Int → Int) (f g : List aB) : List aB := xY 0 ((merge f g 0 0).map fun x => (x.1, OP x.2.1 x.2.2))

def told (f : List aB) : List aB × Int := if iX f then (f, 0) else ([], 7)

theorem XB (f : List aB) : sO f = some (told f) := ZW f

def two (OP : Int → Int → Int) (f g : List aB) : List aB × Int := if iX f && iX g then told (comb OP f g) else ([], 2)

end Go.Abs
namespace Go.Abs
open Go
theorem YN (p v was t : Int) : val (emit p v was) t = if p ≤ t then v - was else 0 := by
  unfold emit
  by_cases h : v = was
  · rw [if_pos h, wG, h]; split <;> omega
  · rw [if_neg h, dB, wG]; simp

theorem xB.zB {l t : Int} {f : List aB} (h : xB l f) (ht : t ≤ l) : val f t = 0 := yI fun j hj => by have := (h.above j hj).1; omega

end Go.Abs
namespace Go.Abs
open Go
def vE (f : List aB) : Nat → Int
  | 0 => -2
  | k + 1 => (f.getD k default).At

theorem RJ {f : List aB} {i : Nat} {a : aB} {last : Int} (ha : f[i]? = some a) (hl : f.length ≤ 1024) (hlast : last = vE f i) (hp : -2 ≤ last) (hp' : 0 < i → -1 ≤ last) :
    lC f i = some (if uL last a then .inr (.inr false) else .inl ((i + 1 : Nat) : Int)) := by
  obtain ⟨d1, d2, d3, d4⟩ := idx ha (by omega)
  have hlt : i < f.length := (List.getElem?_eq_some_iff.1 ha).1
  simp only [lC, d1, cond_true, d3, d4]
  rw [bE d2, bE (fun _ => d2), bE (fun _ => d2), bE (fun _ => d2), bE (fun _ => d2), bE (fun _ => d2)]
  cases i with
  | zero =>
    rw [bE (fun h => by simp at h)]
    have hm2 : last = -2 := hlast
    subst hm2
    by_cases hb : uL (-2) a = true
    · rw [if_pos hb]
      have hx : (((((decide (a.At < -1)) || (decide (1125899906842624 ≤ a.At))) || (decide (a.Net = 0))) || (decide (1048576 < a.Net))) || (decide (a.Net < -1048576))) = true := by
        simp [uL, BA] at hb ⊢; omega
      rw [hx, cond_true]
    · have hb' : uL (-2) a = false := by simpa using hb
      rw [if_neg hb]
      rw [zK] at hb'
      have hx : (((((decide (a.At < -1)) || (decide (1125899906842624 ≤ a.At))) || (decide (a.Net = 0))) || (decide (1048576 < a.Net))) || (decide (a.Net < -1048576))) = false := by
        simp; omega
      rw [hx, cond_false]
      simp
  | succ k =>
    have hw : IntKind.i64.wrap (((k + 1 : Nat) : Int) - 1) = (k : Int) := by rw [eE (by omega) (by omega)]; omega
    have hg : List.getD f (Int.toNat (k : Int)) default = f.getD k default := by rw [Int.toNat_natCast]
    rw [hw, hg, bE (fun _ => ⟨by omega, by omega⟩)]
    have hpos : decide ((0 : Int) < ((k + 1 : Nat) : Int)) = true := by simp
    have hp1 := hp' (by omega)
    have hl2 : (f.getD k default).At = last := hlast.symm
    rw [hpos, Bool.true_and, hl2]
    by_cases hb : uL last a = true
    · rw [if_pos hb]
      by_cases hx : (((((decide (a.At < -1)) || (decide (1125899906842624 ≤ a.At))) || (decide (a.Net = 0))) || (decide (1048576 < a.Net))) || (decide (a.Net < -1048576))) = true
      · rw [hx, cond_true]
      · have hx' : (((((decide (a.At < -1)) || (decide (1125899906842624 ≤ a.At))) || (decide (a.Net = 0))) || (decide (1048576 < a.Net))) || (decide (a.Net < -1048576))) = false := by simpa using hx
        have hy : decide (a.At ≤ last) = true := by
          simp [uL, BA] at hb hx' ⊢; omega
        rw [hx', cond_false, hy, cond_true]
    · have hb' : uL last a = false := by simpa using hb
      rw [if_neg hb]
      rw [zK] at hb'
      have hx : (((((decide (a.At < -1)) || (decide (1125899906842624 ≤ a.At))) || (decide (a.Net = 0))) || (decide (1048576 < a.Net))) || (decide (a.Net < -1048576))) = false := by
        simp; omega
      have hy : decide (a.At ≤ last) = false := by simp; omega
      rw [hx, cond_false, hy, cond_false]

theorem LO {f : List aB} (hl : f.length ≤ 1024) : ∀ (m k : Nat), f.length - k = m → k ≤ f.length → -2 ≤ vE f k → (0 < k → -1 ≤ vE f k) → lp (fun s => lC f s) (k : Int) = some (if chk (vE f k) (f.drop k) = true then .inl () else .inr false)
  | 0, k, hm, hk, _, _ => by
    have : k = f.length := by omega
    subst this
    rw [List.drop_length]
    refine cM ?_
    show lC f _ = _
    simp [lC, chk]
  | m + 1, k, hm, hk, hp, hp' => by
    have h1 : k < f.length := by omega
    have hb := RJ (List.getElem?_eq_getElem h1) hl rfl hp hp'
    have e1 : f.drop k = f[k] :: f.drop (k + 1) := List.drop_eq_getElem_cons h1
    have hpa : vE f (k + 1) = f[k].At := by simp [vE, List.getD_eq_getElem?_getD, h1]
    rw [e1]
    by_cases h : uL (vE f k) f[k] = true
    · rw [if_pos h] at hb
      rw [cM (show (fun s => lC f s) (k : Int) = _ from hb)]
      simp [chk, h]
    · rw [if_neg h] at hb
      have h' : uL (vE f k) f[k] = false := by simpa using h
      have := zK.1 h'
      rw [dO (show (fun s => lC f s) (k : Int) = _ from hb), LO hl m (k + 1) (by omega) (by omega) (by rw [hpa]; omega) (fun _ => by rw [hpa]; omega), hpa]
      simp [chk, h']

theorem LR (f : List aB) : sN f = some (iX f) := by
  unfold sN iX
  by_cases hl : f.length ≤ 1024
  · have h1 : decide ((1024 : Int) < ((f.length : Nat) : Int)) = false := by simp; omega
    rw [h1, cond_false]
    unfold xJ
    have := LO hl f.length 0 rfl (Nat.zero_le _) (by simp [vE]) (by omega)
    simp only [Int.natCast_zero, List.drop_zero, vE] at this
    rw [this]
    cases h : chk (-2) f <;> simp [tD, hl]
  · have h1 : decide ((1024 : Int) < ((f.length : Nat) : Int)) = true := by simp; omega
    rw [h1, cond_true]
    simp [hl]

end Go.Abs
namespace Go.Abs
open Go
def UJ (f : List aB) : Int := (f.map aB.Net).sum

def JX (t : Int) : List aB → List aB
  | [] => []
  | j :: r => if t ≤ j.At then [] else j :: JX t r

def aft (t : Int) : List aB → List aB
  | [] => []
  | j :: r => if t ≤ j.At then j :: r else aft t r

def aAE (t : Int) (f : List aB) : List aB := JX t f ++ (if UJ (JX t f) = 0 then [] else [⟨t, -UJ (JX t f)⟩])

def ahead (f : List aB) (t : Int) : List aB × Int :=
  if iX f then (if 1125899906842624 ≤ t then (f, 0) else told (aAE t f)) else ([], 2)

end Go.Abs
namespace Go.Abs
open Go
def aAV (t : Int) (f : List aB) : List aB := (if UJ (JX t f) = 0 then [] else [⟨-1, UJ (JX t f)⟩]) ++ aft t f

def rest (f : List aB) (t : Int) : List aB × Int :=
  if iX f then (if 1125899906842624 ≤ t then ([], 0) else if t ≤ -1 then (f, 0) else told (aAV t f)) else ([], 2)

end Go.Abs
namespace Go.Abs
open Go
def Up (last : Int) : List aB → Prop
  | [] => True
  | j :: r => (last < j.At ∧ j.At < 1125899906842624 ∧ j.Net ≠ 0) ∧ Up j.At r

theorem Up.above : ∀ {f : List aB} {last : Int}, Up last f → ∀ j ∈ f, last < j.At ∧ j.At < 1125899906842624 ∧ j.Net ≠ 0
  | [], _, _, j, hj => by simp at hj
  | a :: r, last, h, j, hj => by
    rcases List.mem_cons.1 hj with rfl | hj
    · exact h.1
    · have := h.2.above j hj
      have h1 := h.1.1
      exact ⟨by omega, this.2⟩

theorem Up.zB {l t : Int} {f : List aB} (h : Up l f) (ht : t ≤ l) : val f t = 0 := yI fun j hj => by have := (h.above j hj).1; omega

theorem Up.weaken {a b : Int} {f : List aB} (h : Up b f) (hab : a ≤ b) : Up a f := by
  cases f with
  | nil => trivial
  | cons j r => exact ⟨⟨by have := h.1.1; omega, h.1.2⟩, h.2⟩

theorem xB.up : ∀ {f : List aB} {last : Int}, xB last f → Up last f
  | [], _, _ => trivial
  | _ :: _, _, h => ⟨⟨h.1.1, h.1.2.1, h.1.2.2.1⟩, h.2.up⟩

theorem Up.ext : ∀ {f g : List aB} {last : Int}, Up last f → Up last g → (∀ t, last < t → t < 1125899906842624 → val f t = val g t) → f = g
  | [], [], _, _, _, _ => rfl
  | j :: r, [], last, hf, _, h => by
    have := h j.At hf.1.1 hf.1.2.1
    rw [dB, if_pos (Int.le_refl _), hf.2.zB (Int.le_refl _), wG] at this
    exact absurd (by omega) hf.1.2.2
  | [], k :: s, last, _, hg, h => by
    have := h k.At hg.1.1 hg.1.2.1
    rw [dB, if_pos (Int.le_refl _), hg.2.zB (Int.le_refl _), wG] at this
    exact absurd (by omega) hg.1.2.2
  | j :: r, k :: s, last, hf, hg, h => by
    have h1 := h j.At hf.1.1 hf.1.2.1
    have h2 := h k.At hg.1.1 hg.1.2.1
    rw [dB, if_pos (Int.le_refl _), hf.2.zB (Int.le_refl _), dB] at h1
    rw [dB, dB k, if_pos (Int.le_refl _), hg.2.zB (Int.le_refl _)] at h2
    have n1 := hf.1.2.2
    have n2 := hg.1.2.2
    have he : j.At = k.At := by
      rcases Int.lt_trichotomy j.At k.At with h3 | h3 | h3
      · rw [if_neg (by omega), hg.2.zB (by omega)] at h1; omega
      · exact h3
      · rw [if_neg (by omega), hf.2.zB (by omega)] at h2; omega
    rw [if_pos (by omega), hg.2.zB (by omega)] at h1
    have hj : j = k := by
      obtain ⟨a, b⟩ := j; obtain ⟨c, d⟩ := k
      simp only at he h1
      simp only [Int.add_zero] at h1
      rw [he, h1]
    subst hj
    rw [hf.2.ext hg.2 (fun t ht ht' => by
      have := h t (by have := hf.1.1; omega) ht'
      rw [dB, dB] at this; omega)]

def Inc (last : Int) : List Int → Prop
  | [] => True
  | p :: r => (last < p ∧ p < 1125899906842624) ∧ Inc p r

theorem Inc.above : ∀ {ps : List Int} {last : Int}, Inc last ps → ∀ p ∈ ps, last < p ∧ p < 1125899906842624
  | [], _, _, j, hj => by simp at hj
  | a :: r, last, h, j, hj => by
    rcases List.mem_cons.1 hj with rfl | hj
    · exact h.1
    · have := h.2.above j hj
      have h1 := h.1.1
      exact ⟨by omega, this.2⟩

theorem CP : ∀ {l : List (Int × Int)} {last was : Int}, Inc last (l.map Prod.fst) → Up last (xY was l)
  | [], _, _, _ => trivial
  | x :: r, last, was, h => by
    simp only [xY]
    have ih : Up x.1 (xY x.2 r) := CP h.2
    have h1 : last < x.1 ∧ x.1 < 1125899906842624 := h.1
    unfold emit
    split
    · exact ih.weaken (by omega)
    · exact ⟨⟨h1.1, h1.2, by simp only; omega⟩, ih⟩

theorem EV {F : Int → Int} : ∀ {ps : List Int} {last : Int}, Inc last ps → (∀ s t, last ≤ s → s ≤ t → t < 1125899906842624 → (∀ p ∈ ps, ¬ (s < p ∧ p ≤ t)) → F s = F t) →
    ∀ t, last ≤ t → t < 1125899906842624 → val (xY (F last) (ps.map fun p => (p, F p))) t = F t - F last
  | [], last, _, hF, t, h1, h2 => by
    have := hF last t (Int.le_refl _) h1 h2 (by simp)
    simp [xY, val, this]
  | p :: r, last, hi, hF, t, h1, h2 => by
    simp only [List.map_cons, xY]
    rw [ID, YN]
    by_cases hp : p ≤ t
    · rw [if_pos hp, EV (F := F) hi.2 (fun s t' hs hst ht' hn => hF s t' (by have := hi.1.1; omega) hst ht' (fun q hq => by
        rcases List.mem_cons.1 hq with rfl | hq
        · omega
        · exact hn q hq)) t hp h2]
      omega
    · have := hF last t (Int.le_refl _) h1 h2 (fun q hq => by
        rcases List.mem_cons.1 hq with rfl | hq
        · omega
        · have := (hi.2.above q hq).1; omega)
      rw [if_neg hp, Up.zB (CP (last := p) (by rw [List.map_map]; simpa [Function.comp_def] using hi.2)) (by omega)]
      omega

theorem XO {F : Int → Int} (h2 : F (-2) = 0) {ps : List Int} (hi : Inc (-2) ps) (hF : ∀ s t, -2 ≤ s → s ≤ t → t < 1125899906842624 → (∀ p ∈ ps, ¬ (s < p ∧ p ≤ t)) → F s = F t) {h : List aB} (hh : Up (-2) h) (hv : ∀ t, -2 < t → t < 1125899906842624 → val h t = F t) :
    xY 0 (ps.map fun p => (p, F p)) = h := by
  refine (CP (by rw [List.map_map]; simpa [Function.comp_def] using hi)).ext hh fun t h3 h4 => ?_
  have := EV hi hF t (by omega) h4
  rw [h2] at this
  rw [this, hv t h3 h4]; omega

end Go.Abs
namespace Go.Abs
open Go
theorem RG {f : List aB} (t : Int) (hb : ∀ j ∈ f, j.Net ≤ 1048576 ∧ -1048576 ≤ j.Net) (hl : f.length ≤ 1099511627776) : mM f t = some (val f t) := by
  unfold mM tX
  rw [qV (l := f) (body := fun s : Int × Int => iS f t s.1 s.2) (fun v i => (v, i)) (fun v r => v + val r t)
    (fun v r => (∀ j ∈ r, j.Net ≤ 1048576 ∧ -1048576 ≤ j.Net) ∧ r.length ≤ 1099511627776 ∧ v ≤ 1048576 * (1099511627776 - r.length) ∧ -(1048576 * (1099511627776 - r.length)) ≤ v) 0 ?_ ?_ ?_]
  · simp [qQ]
  · intro i a r v ha ⟨h1, h2, h3, h4⟩
    obtain ⟨d1, d2, d3, d4⟩ := idx ha (by omega)
    have hj := h1 a (List.mem_cons_self ..)
    simp only [List.length_cons] at h2 h3 h4
    left
    by_cases h : a.At ≤ t
    · refine ⟨v + a.Net, ?_, ⟨fun j hj => h1 j (List.mem_cons_of_mem _ hj), by omega, by omega, by omega⟩, ?_⟩
      · show iS f t v i = _
        have hw : IntKind.i64.wrap (v + a.Net) = v + a.Net := eE (by omega) (by omega)
        simp only [iS, oL, d1, cond_true, bE d2, d3, d4, h, decide_true, hw]
      · show v + a.Net + val r t = v + val (a :: r) t
        rw [dB, if_pos h]; omega
    · refine ⟨v, ?_, ⟨fun j hj => h1 j (List.mem_cons_of_mem _ hj), by omega, by omega, by omega⟩, ?_⟩
      · show iS f t v i = _
        simp only [iS, oL, d1, cond_true, bE d2, d3, d4, h, decide_false, cond_false]
      · show v + val r t = v + val (a :: r) t
        rw [dB, if_neg h]; omega
  · intro s _
    show iS f t s (f.length : Nat) = _
    simp only [iS, gN, cond_false]
    simp [val]
  · exact ⟨hb, hl, by omega, by omega⟩

theorem wB {f : List aB} (h : iX f = true) : ∀ j ∈ f, j.Net ≤ 1048576 ∧ -1048576 ≤ j.Net := fun j hj => by have := (pE.1 h).2.above j hj; omega

theorem EC {f : List aB} (h : iX f = true) (t : Int) : mM f t = some (val f t) :=
  RG t (wB h) (by have := (pE.1 h).1; omega)

def AQ (t : Int) : List Int → List Int
  | [] => [t]
  | p :: r => if p = t then p :: r else if t < p then t :: p :: r else p :: AQ t r

theorem LY {t x : Int} : ∀ {ps : List Int}, x ∈ AQ t ps ↔ x = t ∨ x ∈ ps
  | [] => by simp [AQ]
  | p :: r => by
    unfold AQ
    split
    · rename_i h; subst h; simp
    · split
      · simp
      · simp only [List.mem_cons, LY (ps := r)]; constructor <;> (intro h; rcases h with h | h | h <;> simp [h])

theorem KZ {t : Int} : ∀ {ps : List Int} {last : Int}, Inc last ps → last < t → t < 1125899906842624 → Inc last (AQ t ps)
  | [], last, _, h1, h2 => ⟨⟨h1, h2⟩, trivial⟩
  | p :: r, last, h, h1, h2 => by
    unfold AQ
    split
    · exact h
    · split
      · rename_i h3 h4
        exact ⟨⟨h1, h2⟩, ⟨h4, h.1.2⟩, h.2⟩
      · exact ⟨h.1, KZ h.2 (by omega) h2⟩

def JL (ps : List Int) (f : List aB) : List Int := f.foldl (fun ps j => AQ j.At ps) ps

theorem HD {x : Int} : ∀ {f : List aB} {ps : List Int}, x ∈ JL ps f ↔ x ∈ ps ∨ ∃ j ∈ f, j.At = x
  | [], ps => by simp [JL]
  | k :: r, ps => by
    have := HD (x := x) (f := r) (ps := AQ k.At ps)
    unfold JL at this ⊢
    rw [List.foldl_cons, this, LY]
    constructor
    · rintro ((h | h) | ⟨j, h, h'⟩)
      · exact Or.inr ⟨k, List.mem_cons_self .., h.symm⟩
      · exact Or.inl h
      · exact Or.inr ⟨j, List.mem_cons_of_mem _ h, h'⟩
    · rintro (h | ⟨j, h, h'⟩)
      · exact Or.inl (Or.inr h)
      · rcases List.mem_cons.1 h with rfl | h
        · exact Or.inl (Or.inl h'.symm)
        · exact Or.inr ⟨j, h, h'⟩

theorem OH : ∀ {f : List aB} {ps : List Int} {last : Int}, Inc last ps → (∀ j ∈ f, last < j.At ∧ j.At < 1125899906842624) → Inc last (JL ps f)
  | [], _, _, h, _ => h
  | k :: r, ps, last, h, hf => by
    have hk := hf k (List.mem_cons_self ..)
    exact OH (f := r) (KZ h hk.1 hk.2) fun j hj => hf j (List.mem_cons_of_mem _ hj)

end Go.Abs
namespace Go.Abs
open Go
def mn (a b : Int) : Int := if b < a then b else a

def parts (v : Int) : List aB → List Int
  | [] => []
  | j :: r => (v + j.Net) :: parts (v + j.Net) r

def tU (f : List aB) : Int := (f.map fun j => val f j.At).foldl mn (val f (-1))

theorem parts_eq : ∀ {f : List aB} {l v : Int}, xB l f → parts v f = f.map fun j => v + val f j.At
  | [], _, _, _ => rfl
  | j :: r, l, v, h => by
    simp only [parts, List.map_cons]
    rw [parts_eq h.2, dB, if_pos (Int.le_refl _), h.2.zB (Int.le_refl _), Int.add_zero]
    congr 1
    apply List.map_congr_left
    intro k hk
    have := (h.2.above k hk).1
    rw [dB, if_pos (by omega)]; omega

theorem VD {j : aB} {r : List aB} (h : xB (-2) (j :: r)) : val (j :: r) (-1) = if j.At = -1 then j.Net else 0 := by
  have := h.1.1
  by_cases e : j.At = -1
  · rw [if_pos e, dB, if_pos (by omega), h.2.zB (by omega)]; omega
  · rw [if_neg e, yI]
    intro k hk
    rcases List.mem_cons.1 hk with rfl | hk
    · omega
    · have := (h.2.above k hk).1; omega

theorem IM {f : List aB} (hf : iX f = true) (m : Int) (hm : -1125899906842624 ≤ m ∧ m ≤ 1125899906842624) : rN 0 m f (f.length : Nat) 0 = some ((f.map fun j => val f j.At).foldl mn m) := by
  obtain ⟨hl, hr⟩ := pE.1 hf
  unfold rN
  rw [qV (l := f) (body := fun s : Int × Int × Int => mS f (f.length : Nat) s.1 s.2.1 s.2.2) (fun (s : Int × Int) i => (s.1, s.2, i)) (fun s r => (parts s.1 r).foldl mn s.2)
    (fun s r => (∀ j ∈ r, j.Net ≤ 1048576 ∧ -1048576 ≤ j.Net) ∧ r.length ≤ 1024 ∧ s.1 ≤ 1048576 * (1024 - r.length) ∧ -(1048576 * (1024 - r.length)) ≤ s.1) (0, m) ?_ ?_ ?_]
  · simp only [Option.bind_some, rY, parts_eq hr, Int.zero_add]
  · rintro i a r ⟨v, m⟩ ha ⟨h1, h2, h3, h4⟩
    obtain ⟨d1, d2, d3, d4⟩ := idx ha (by omega)
    have hj := h1 a (List.mem_cons_self ..)
    simp only [List.length_cons] at h2 h3 h4
    have hw : IntKind.i64.wrap (v + a.Net) = v + a.Net := eE (by omega) (by omega)
    left
    refine ⟨(v + a.Net, mn m (v + a.Net)), ?_, ⟨fun j hj => h1 j (List.mem_cons_of_mem _ hj), by omega, by simp only; omega, by simp only; omega⟩, rfl⟩
    show mS f (f.length : Nat) v m i = _
    simp only [mS, d1, cond_true, bE d2, d3, d4, hw, mn]
  · rintro ⟨v, m⟩ _
    show mS f (f.length : Nat) v m (f.length : Nat) = _
    simp only [mS, gN, cond_false, parts, List.foldl_nil]
  · exact ⟨wB hf, hl, by simp only; omega, by simp only; omega⟩

theorem NZ (f : List aB) : qD f = some (if iX f then tU f else 0) := by
  unfold qD
  rw [ES]
  cases h : iX f
  · simp
  · cases f with
    | nil => simp [tU, val]
    | cons j r =>
      obtain ⟨hl, hr⟩ := pE.1 h
      have hne : decide (((List.length (j :: r) : Nat) : Int) = 0) = false := by simp; omega
      simp only [Option.bind_some, Bool.not_true, Bool.false_or, hne, cond_false, bE aA9, aAJ, if_true]
      have hj := hr.1
      unfold tU
      rw [VD hr]
      by_cases e : j.At = -1
      · simp only [e, decide_true, cond_true, if_true, pI]
        exact IM h j.Net (by omega)
      · simp only [e, decide_false, cond_false, if_false, pI]
        exact IM h 0 (by omega)

theorem QX (f : List aB) : rR f = some (if iX f then tU f else 0) := by
  unfold rR
  rw [LR]
  cases h : iX f
  · simp
  · obtain ⟨hl, hr⟩ := pE.1 h
    simp only [Option.bind_some, Bool.not_true, cond_false, EC h, if_true, uE]
    rw [qV (l := f) (body := fun s : Int × Int => lS f s.1 s.2) (fun m i => (m, i)) (fun m r => (r.map fun j => val f j.At).foldl mn m) (fun _ _ => True) (val f (-1)) ?_ ?_ trivial]
    · simp [qT, tU]
    · rintro i a r m ha _
      obtain ⟨d1, d2, d3, d4⟩ := idx ha (by omega)
      left
      refine ⟨mn m (val f a.At), ?_, trivial, rfl⟩
      show lS f m i = _
      simp only [lS, qR, d1, cond_true, bE d2, d3, d4, EC h, Option.bind_some, mn]
      by_cases e : val f a.At < m <;> simp [e]
    · intro m _
      show lS f m (f.length : Nat) = _
      simp only [lS, gN, cond_false, List.map_nil, List.foldl_nil]

theorem EJ {s t : Int} (hst : s ≤ t) : ∀ {f : List aB}, (∀ j ∈ f, ¬ (s < j.At ∧ j.At ≤ t)) → val f s = val f t
  | [], _ => rfl
  | j :: r, h => by
    have hj := h j (List.mem_cons_self ..)
    rw [dB, dB, EJ hst (fun k hk => h k (List.mem_cons_of_mem _ hk))]
    by_cases e : j.At ≤ s
    · rw [if_pos e, if_pos (by omega)]
    · rw [if_neg e, if_neg (by omega)]

end Go.Abs
namespace Go.Abs
open Go
theorem w1 : IntKind.i64.wrap (0 + 1) = 1 := by rw [eE] <;> omega

theorem w2 : IntKind.i64.wrap (1 + 1) = 2 := by rw [eE] <;> omega

theorem w3 : IntKind.i64.wrap (1 - 1) = 0 := by rw [eE] <;> omega

theorem v0 : IntKind.i64.wrap 0 = 0 := by rw [eE] <;> omega

theorem v1 : IntKind.i64.wrap 1 = 1 := by rw [eE] <;> omega

theorem v2 : IntKind.i64.wrap 2 = 2 := by rw [eE] <;> omega

theorem v3 : IntKind.i64.wrap (-1) = -1 := by rw [eE] <;> omega

end Go.Abs
namespace Go.Abs
open Go
theorem XE (f : List aB) : (told f).1.length ≤ 1024 := by
  unfold told
  cases h : iX f
  · simp
  · simpa using (pE.1 h).1

end Go.Abs
namespace Go.Abs
theorem XV : @dM = @nE aB _ := rfl

theorem VH : @dS = @dX aB _ := rfl

theorem RN (cmp) : ∀ k, @fY cmp k = @eA aB _ cmp k
  | 0 => rfl
  | k + 1 => by
    show dS cmp _ = dX cmp _
    rw [RN cmp k, VH]

theorem WZ : @eG = @oD aB _ := by
  funext d a m b cmp
  unfold eG oD
  simp only [RN]

theorem QS : @fB = @wH aB _ := by
  funext d n cmp
  unfold fB wH iH yD
  unfold gQ mB eY yB
  unfold iE yC iG jJ
  unfold iA uS gR mE
  unfold eV vD
  rw [WZ, XV]
  rfl

end Go.Abs
namespace Go.Abs
open Go
variable {α : Type} [Inhabited α]
noncomputable def oO (f1 : α → Option Bool) (s0 : (List α)) (t7 : Int) (t8 : Int) : Option ((Int) ⊕ (Unit ⊕ Int)) :=
  cond (decide (t8 < t7))
  (bL (0 ≤ t8 ∧ t8 < ((List.length s0 : Nat) : Int)) <|
  (f1 (List.getD s0 (Int.toNat t8) default)).bind fun x2 =>
  cond x2
  (some (.inr (.inr t8)))
  (some (.inl (IntKind.i64.wrap (t8 + (1 : Int))))))
  (some (.inr (.inl ())))

theorem AH {l : List α} {f : α → Option Bool} {g : α → Bool} (hl : l.length ≤ 1099511627776) (hf : ∀ x ∈ l, f x = some (g x)) : ∀ (r : List α) (k : Nat), l.drop k = r → k ≤ l.length →
    ∃ x, lp (fun s => oO f l (l.length : Nat) s) (k : Int) = some x ∧ ((x = .inl () ∧ r.any g = false) ∨ (∃ i : Nat, x = .inr (i : Int) ∧ k ≤ i ∧ i < l.length ∧ r.any g = true ∧ g (l.getD i default) = true ∧ ∀ j, k ≤ j → j < i → g (l.getD j default) = false))
  | [], k, hd, hk => by
    have : k = l.length := by
      have := congrArg List.length hd
      simp only [List.length_drop, List.length_nil] at this; omega
    subst this
    refine ⟨.inl (), cM ?_, Or.inl ⟨rfl, rfl⟩⟩
    show oO f l _ _ = _
    simp only [oO, gN, cond_false]
  | a :: r, k, hd, hk => by
    obtain ⟨h1, h2⟩ := drop_cons hd
    have hlt : k < l.length := (List.getElem?_eq_some_iff.1 h1).1
    obtain ⟨d1, d2, d3, d4⟩ := idx h1 (by omega)
    have hga : l.getD k default = a := by rw [Int.toNat_natCast] at d3; exact d3
    have hb : (fun s => oO f l (l.length : Nat) s) (k : Int) = some (if g a then .inr (.inr (k : Int)) else .inl ((k + 1 : Nat) : Int)) := by
      show oO f l _ _ = _
      simp only [oO, d1, cond_true, bE d2, d3, d4, hf a (List.mem_of_getElem? h1), Option.bind_some]
      cases g a <;> simp
    cases hg : g a
    · rw [hg] at hb
      obtain ⟨x, e, hx⟩ := AH hl hf r (k + 1) h2 (by omega)
      refine ⟨x, by rw [dO hb]; exact e, ?_⟩
      rcases hx with ⟨rfl, h⟩ | ⟨i, rfl, h3, h4, h5, h6, h7⟩
      · exact Or.inl ⟨rfl, by simp [hg, h]⟩
      · refine Or.inr ⟨i, rfl, by omega, h4, by simp [h5], h6, fun j hj hj' => ?_⟩
        by_cases e : j = k
        · subst e; rw [hga, hg]
        · exact h7 j (by omega) hj'
    · rw [hg] at hb
      exact ⟨.inr (k : Int), cM hb, Or.inr ⟨k, rfl, Nat.le_refl _, hlt, by simp [hg], by rw [hga, hg], fun j h h' => by omega⟩⟩

end Go.Abs
namespace Go.Abs
open Go
theorem EX {l : List aB} {f : aB → Option Bool} {g : aB → Bool} (hl : l.length ≤ 1099511627776) (hf : ∀ x ∈ l, f x = some (g x)) : cS l f = some (l.any g) := by
  unfold cS fM fJ
  obtain ⟨x, e, hx⟩ := AH hl hf l 0 rfl (Nat.zero_le _)
  have e' : lp (fun s => fH f l (l.length : Nat) s) 0 = some x := e
  rw [e']
  rcases hx with ⟨rfl, h⟩ | ⟨i, rfl, _, _, h, _⟩
  · simp [dP, h]
  · simp [h]

def AI (j : aB) : Bool := !BA j.Net

def EF (j : aB) : Bool := decide (j.At < -1) || decide (1125899906842624 < j.At)

def DH (l : List aB) : List aB := xY 0 ((JL [] (l.filter fun j => decide (j.At < 1125899906842624))).map fun p => (p, val l p))

def rJ (l : List aB) : List aB × Int := if l.any AI then ([], 2) else if l.any EF then ([], 13) else told (DH l)

def yX (p n : Int) : List aB := if n ≠ 0 ∧ p < 1125899906842624 then [⟨p, n⟩] else []

def uN (p n : Int) : List aB → List aB
  | [] => yX p n
  | j :: r => if j.At = p then uN p (n + j.Net) r else yX p n ++ uN j.At j.Net r

def grp : List aB → List aB
  | [] => []
  | j :: r => uN j.At j.Net r

abbrev PW (a b : aB) : Prop := a.At ≤ b.At

theorem GR {t : Int} (ht : t < 1125899906842624) : ∀ {r : List aB} {p n : Int}, val (uN p n r) t = (if p ≤ t then n else 0) + val r t
  | [], p, n => by
    unfold uN yX
    split
    · rw [dB, wG]
    · rw [wG]; split <;> omega
  | j :: r, p, n => by
    unfold uN
    split
    · rename_i h
      rw [GR ht, dB, h]; split <;> omega
    · rw [ID, GR ht, dB]
      have : val (yX p n) t = if p ≤ t then n else 0 := by
        unfold yX
        split
        · rw [dB, wG]; simp
        · rw [wG]; split <;> omega
      rw [this]

theorem ZT {t : Int} (ht : t < 1125899906842624) : ∀ {r : List aB}, val (grp r) t = val r t
  | [] => rfl
  | j :: r => by unfold grp; rw [GR ht, dB]

theorem KL : ∀ {r : List aB} {p n last : Int}, last < p → (∀ j ∈ r, p ≤ j.At) → Srt PW r → Up last (uN p n r)
  | [], p, n, last, h, _, _ => by
    unfold uN yX
    split
    · rename_i h'; exact ⟨⟨h, h'.2, h'.1⟩, trivial⟩
    · trivial
  | j :: r, p, n, last, h, hp, hs => by
    have hj := hp j (by simp)
    have hs' := List.pairwise_cons.1 hs
    unfold uN
    split
    · exact KL h (fun k hk => hp k (by simp [hk])) hs'.2
    · have ih : Up p (uN j.At j.Net r) := KL (by omega) (fun k hk => hs'.1 k hk) hs'.2
      unfold yX
      split
      · rename_i h'; exact ⟨⟨h, h'.2, h'.1⟩, ih⟩
      · exact ih.weaken (by omega)

theorem aAz {r : List aB} (h : ∀ j ∈ r, -2 < j.At) (hs : Srt PW r) : Up (-2) (grp r) := by
  cases r with
  | nil => trivial
  | cons j r =>
    have hs' := List.pairwise_cons.1 hs
    exact KL (h j (by simp)) (fun k hk => hs'.1 k hk) hs'.2

theorem NW {l out : List aB} (hl : l.length ≤ 1099511627776) (hb : ∀ j ∈ l, j.Net ≤ 1048576 ∧ -1048576 ≤ j.Net) : ∀ (r : List aB) (k : Nat) (p n : Int), l.drop k = r → k ≤ l.length → n ≤ 1048576 * k → -(1048576 * k) ≤ n →
    ∃ n' k', k ≤ k' ∧ k' ≤ l.length ∧ uN p n r = yX p n' ++ grp (l.drop k') ∧ lp (fun s : List aB × List aB × Int × aB => jA s.1 s.2.1 s.2.2.1 s.2.2.2) (l, out, (k : Int), ⟨p, n⟩) = some (l, out, ((k' : Nat) : Int), ⟨p, n'⟩) ∧ (∀ j r', r = j :: r' → j.At = p → k < k')
  | [], k, p, n, hd, hk, _, _ => by
    have : k = l.length := by
      have := congrArg List.length hd
      simp only [List.length_drop, List.length_nil] at this; omega
    subst this
    refine ⟨n, l.length, Nat.le_refl _, Nat.le_refl _, by simp [uN, grp], cM ?_, fun j r' h => by cases h⟩
    show jA _ _ _ _ = _
    simp only [jA, gN, Bool.false_and, cond_false]
    exact bE (fun h => by cases h)
  | a :: r, k, p, n, hd, hk, h1, h2 => by
    obtain ⟨e1, e2⟩ := drop_cons hd
    have hlt : k < l.length := (List.getElem?_eq_some_iff.1 e1).1
    obtain ⟨d1, d2, d3, d4⟩ := idx e1 (by omega)
    have ha := hb a (List.mem_of_getElem? e1)
    by_cases h : a.At = p
    · have hw : IntKind.i64.wrap (n + a.Net) = n + a.Net := eE (by omega) (by omega)
      obtain ⟨n', k', k1, k2, k3, k4, _⟩ := NW hl hb r (k + 1) p (n + a.Net) e2 (by omega) (by omega) (by omega) (out := out)
      refine ⟨n', k', by omega, k2, by simp [uN, h, k3], ?_, fun _ _ _ _ => by omega⟩
      have hb : (fun s : List aB × List aB × Int × aB => jA s.1 s.2.1 s.2.2.1 s.2.2.2) (l, out, (k : Int), ⟨p, n⟩) = some (.inl (l, out, ((k + 1 : Nat) : Int), ⟨p, n + a.Net⟩)) := by
        show jA _ _ _ _ = _
        simp only [jA, d1, Bool.true_and, d3, d4, h, decide_true, cond_true, hw]
        rw [bE (fun _ => d2), bE d2]
      rw [dO hb, k4]
    · refine ⟨n, k, Nat.le_refl _, hk, ?_, cM ?_, fun j r' he hp => ?_⟩
      · rw [hd]; simp [uN, h, grp]
      · show jA _ _ _ _ = _
        simp only [jA, d1, Bool.true_and, d3, h, decide_false, cond_false]
        exact bE (fun _ => d2)
      · cases he; exact absurd hp h

theorem XF {l : List aB} (hl : l.length ≤ 1099511627776) (hb : ∀ j ∈ l, j.Net ≤ 1048576 ∧ -1048576 ≤ j.Net) : ∀ (m k : Nat) (out : List aB), l.length - k ≤ m → k ≤ l.length → out.length ≤ k →
    lp (fun s : List aB × List aB × Int => lA s.1 s.2.1 s.2.2) (l, out, (k : Int)) = some (out ++ grp (l.drop k)) := by
  have stop : ∀ out, lp (fun s : List aB × List aB × Int => lA s.1 s.2.1 s.2.2) (l, out, ((l.length : Nat) : Int)) = some (out ++ grp (l.drop l.length)) := by
    intro out
    refine cM ?_
    show lA _ _ _ = _
    simp only [lA, gN, cond_false]
    simp [grp]
  intro m
  induction m with
  | zero =>
    intro k out hm hk _
    have : k = l.length := by omega
    subst this; exact stop out
  | succ m ih =>
    intro k out hm hk ho
    by_cases he : k = l.length
    · subst he; exact stop out
    · have hlt : k < l.length := by omega
      have hd : l.drop k = l[k] :: l.drop (k + 1) := List.drop_eq_getElem_cons hlt
      obtain ⟨d1, d2, d3, d4⟩ := idx (List.getElem?_eq_getElem hlt) (by omega)
      obtain ⟨n', k', k1, k2, k3, k4, k5⟩ := NW hl hb (l.drop k) k l[k].At 0 rfl hk (by omega) (by omega) (out := out)
      have hk' := k5 _ _ hd rfl
      have hbod : (fun s : List aB × List aB × Int => lA s.1 s.2.1 s.2.2) (l, out, (k : Int)) = some (.inl (l, out ++ yX l[k].At n', ((k' : Nat) : Int))) := by
        show lA _ _ _ = _
        simp only [lA, d1, cond_true, bE d2, d3, xG, k4, Option.bind_some, tM]
        unfold yX
        by_cases c : n' ≠ 0 ∧ l[k].At < 1125899906842624
        · have hc : (!decide (n' = 0) && decide (l[k].At < 1125899906842624)) = true := by simp [c]
          rw [hc, cond_true, if_pos c, bE (by simp only [List.length_cons, List.length_nil]; omega)]
        · have hc : (!decide (n' = 0) && decide (l[k].At < 1125899906842624)) = false := by
            rw [Bool.eq_false_iff]; intro h; apply c; simpa using h
          rw [hc, cond_false, if_neg c]; simp
      have hfl : (yX l[k].At n').length ≤ 1 := by unfold yX; split <;> simp
      rw [dO hbod, ih k' _ (by omega) k2 (by simp only [List.length_append]; omega)]
      have hg : grp (l.drop k) = uN l[k].At 0 (l.drop k) := by rw [hd]; simp [grp, uN]
      rw [hg, k3]; simp

theorem ZE (a b : aB) : mQ a b = some (if a.At < b.At then -1 else if b.At < a.At then 1 else 0) := by
  unfold mQ iT nT
  by_cases h1 : a.At < b.At
  · simp [h1]
  · by_cases h2 : b.At < a.At <;> simp [h1, h2]

theorem aA7 : Cmp (fun _ => True) PW (fun y0 y1 => mQ y0 y1) where
  ans x y _ _ := ⟨_, ZE x y, by unfold PW; split <;> (try split) <;> omega⟩
  trans x y z _ _ _ h1 h2 := Int.le_trans h1 h2
  total x y _ _ := Int.le_total x.At y.At

theorem aA1 {l : List aB} (hl : l.length ≤ 1099511627776) : ∃ r, r.Perm l ∧ Srt PW r ∧ dA l (fun y0 y1 => mQ y0 y1) = some r := by
  obtain ⟨r, r1, r2, r3⟩ := LN aA7 (d := l) (fun _ _ => trivial) hl
  refine ⟨r, r1, r2, ?_⟩
  unfold dA
  rw [QS, r3]; rfl

theorem NR {f g : List aB} (h : f.Perm g) (t : Int) : val f t = val g t := by
  induction h with
  | nil => rfl
  | cons x _ ih => rw [dB, dB, ih]
  | swap x y l => rw [dB, dB, dB, dB]; omega
  | trans _ _ ih1 ih2 => rw [ih1, ih2]

theorem TA {l : List aB} (h : l.any AI = false) : ∀ j ∈ l, j.Net ≤ 1048576 ∧ -1048576 ≤ j.Net := by
  intro j hj
  have := List.any_eq_false.1 h j hj
  simp [AI, BA] at this
  omega

theorem DL {l : List aB} (h : l.any EF = false) : ∀ j ∈ l, -2 < j.At ∧ j.At ≤ 1125899906842624 := by
  intro j hj
  have := List.any_eq_false.1 h j hj
  simp [EF] at this
  omega

theorem EM {l : List aB} (ht : ∀ j ∈ l, -2 < j.At) : Inc (-2) (JL [] (l.filter fun j => decide (j.At < 1125899906842624))) :=
  OH (ps := []) (show Inc (-2) [] from trivial) fun j hj => by
    obtain ⟨h1, h2⟩ := List.mem_filter.1 hj
    exact ⟨ht j h1, by simpa using h2⟩

theorem ON {l h : List aB} (ht : ∀ j ∈ l, -2 < j.At) (hh : Up (-2) h) (hv : ∀ t, -2 < t → t < 1125899906842624 → val h t = val l t) : DH l = h := by
  refine XO (F := val l) (yI fun j hj => ht j hj) (EM ht) ?_ hh hv
  intro s t _ hst h2 hn
  exact EJ hst fun j hj hc => hn j.At (HD.2 (Or.inr ⟨j, List.mem_filter.2 ⟨hj, by simp; omega⟩, rfl⟩)) hc

theorem norm_eq {l : List aB} (hl : l.length ≤ 1099511627776) : vA l = some (rJ l) := by
  unfold vA rJ
  rw [EX (g := AI) hl (fun x _ => by simp [sH, RP, AI])]
  simp only [Option.bind_some]
  cases h1 : l.any AI
  · rw [EX (f := fun y0 => rX y0) (g := EF) hl (fun x _ => rfl)]
    simp only [cond_false, Option.bind_some, Bool.false_eq_true, if_false]
    cases h2 : l.any EF
    · simp only [cond_false, Bool.false_eq_true, if_false]
      have hc : eT l = some l := by unfold eT; exact bE ⟨by omega, by omega⟩
      obtain ⟨r, r1, r2, r3⟩ := aA1 hl
      rw [hc]
      simp only [Option.bind_some]
      rw [r3]
      simp only [Option.bind_some, wY]
      have hlr : r.length ≤ 1099511627776 := by rw [r1.length_eq]; exact hl
      have := XF hlr (fun j hj => TA h1 j (r1.mem_iff.1 hj)) r.length 0 [] (by omega) (by omega) (by simp)
      simp only [Int.natCast_zero, List.drop_zero, List.nil_append] at this
      rw [this]
      simp only [Option.bind_some, tB, XB]
      rw [ON (fun j hj => (DL h2 j hj).1) (aAz (fun j hj => (DL h2 j (r1.mem_iff.1 hj)).1) r2) (fun t _ ht => by rw [ZT ht, NR r1])]
    · simp
  · simp

end Go.Abs
namespace Go.Abs
open Go
theorem KX (x y : ByteArray) : nX x y = decide (x = y) := by
  unfold nX
  rw [ByteArray.toList_eq, ByteArray.toList_eq]
  by_cases h : x = y
  · simp [h]
  · have : x.data.toList ≠ y.data.toList := by
      intro he
      apply h
      cases x; cases y
      congr 1
      exact Array.toList_inj.1 he
    have h2 : (x.data.toList == y.data.toList) = false := by simpa using this
    rw [h2]; simp [h]

theorem veq (a b : aI) : ((decide (a.Kind = b.Kind)) && ((decide (a.Num = b.Num)) && ((nX a.Text b.Text) && true))) = decide (a = b) := by
  rw [KX]
  obtain ⟨a1, a2, a3⟩ := a
  obtain ⟨b1, b2, b3⟩ := b
  by_cases h1 : a1 = b1 <;> by_cases h2 : a2 = b2 <;> by_cases h3 : a3 = b3 <;> simp [h1, h2, h3]

def DG (v : aI) : Bool := decide (v.Kind = 1) && nX v.Text (⟨#[]⟩ : ByteArray)

def CL (v : aI) : Bool := ((decide (v.Kind = 2)) && (decide (v.Num = 0))) && (decide (((ByteArray.size v.Text : Nat) : Int) ≤ 64))

def DP (v : aI) : Bool := DG v || CL v

def pX (r : List aI) : Bool := decide (r.length ≤ 8) && r.all DP

theorem of_eq (v : aI) : lI v = some (if DG v then (.k_number v.Num, true) else if CL v then (.k_words v.Text, true) else (.none_, false)) := by
  unfold lI DG CL
  cases (decide (v.Kind = 1) && nX v.Text (⟨#[]⟩ : ByteArray)) <;> cases (((decide (v.Kind = 2)) && (decide (v.Num = 0))) && (decide (((ByteArray.size v.Text : Nat) : Int) ≤ 64))) <;> rfl

theorem ZU (v : aI) : uT v = some (DP v) := by
  unfold uT DP
  rw [of_eq]
  cases DG v <;> cases CL v <;> rfl

theorem PJ {l : List aI} {f : aI → Option Bool} {g : aI → Bool} (hl : l.length ≤ 1099511627776) (hf : ∀ x ∈ l, f x = some (g x)) : dG l f = some (l.any g) := by
  unfold dG fL fE
  obtain ⟨x, e, hx⟩ := AH hl hf l 0 rfl (Nat.zero_le _)
  have e' : lp (fun s => fI f l (l.length : Nat) s) 0 = some x := e
  rw [e']
  rcases hx with ⟨rfl, h⟩ | ⟨i, rfl, _, _, h, _⟩
  · simp [dR, h]
  · simp [h]

theorem BX (r : List aI) : pU r = some (pX r) := by
  unfold pU pX
  by_cases h : r.length ≤ 8
  · have h1 : decide ((8 : Int) < ((r.length : Nat) : Int)) = false := by simp; omega
    rw [h1, cond_false, PJ (g := fun v => !DP v) (by omega) (fun x _ => by simp [uW, ZU])]
    simp only [Option.bind_some, h, decide_true, Bool.true_and]
    congr 1
    rw [List.all_eq_not_any_not]
  · have h1 : decide ((8 : Int) < ((r.length : Nat) : Int)) = true := by simp; omega
    rw [h1, cond_true]
    simp [h]

theorem IZ {α : Type} [DecidableEq α] {f g : List α} {body : Int → Option (Int ⊕ (Unit ⊕ Bool))} (he : f.length = g.length)
    (hb : ∀ (i : Nat) a b, f[i]? = some a → g[i]? = some b → body i = some (if a = b then .inl ((i + 1 : Nat) : Int) else .inr (.inr false)))
    (hend : body (f.length : Nat) = some (.inr (.inl ()))) : ∀ (m k : Nat), f.length - k = m → k ≤ f.length → lp body (k : Int) = some (if f.drop k = g.drop k then .inl () else .inr false)
  | 0, k, hm, hk => by
    have : k = f.length := by omega
    subst this
    rw [List.drop_length, he, List.drop_length, if_pos rfl]
    rw [← he]
    exact cM hend
  | m + 1, k, hm, hk => by
    have h1 : k < f.length := by omega
    have h2 : k < g.length := by omega
    have hbk := hb k _ _ (List.getElem?_eq_getElem h1) (List.getElem?_eq_getElem h2)
    have e1 : f.drop k = f[k] :: f.drop (k + 1) := List.drop_eq_getElem_cons h1
    have e2 : g.drop k = g[k] :: g.drop (k + 1) := List.drop_eq_getElem_cons h2
    have hiff : (f.drop k = g.drop k) ↔ (f[k] = g[k] ∧ f.drop (k + 1) = g.drop (k + 1)) := by rw [e1, e2, List.cons.injEq]
    by_cases h : f[k] = g[k]
    · rw [if_pos h] at hbk
      rw [dO hbk, IZ he hb hend m (k + 1) (by omega) (by omega)]
      simp only [hiff, h, true_and]
    · rw [if_neg h] at hbk
      rw [cM hbk]
      simp only [hiff, h, false_and, if_false]

theorem IF {α : Type} {f g : List α} (h : f.length ≠ g.length) : (!decide (((f.length : Nat) : Int) = ((g.length : Nat) : Int))) = true := by simp; omega

theorem JB {α : Type} {f g : List α} (h : f.length = g.length) : (!decide (((f.length : Nat) : Int) = ((g.length : Nat) : Int))) = false := by simp [h]

theorem IB (a b : List aI) (hl : a.length ≤ 17592186044416) : tW a b = some (decide (a = b)) := by
  unfold tW gX
  by_cases he : a.length = b.length
  · rw [JB he, cond_false]
    unfold gO
    have := IZ (f := a) (g := b) (body := fun s => dK a b (a.length : Nat) s) he ?_ ?_ a.length 0 rfl (Nat.zero_le _)
    · simp only [Int.natCast_zero, List.drop_zero] at this
      rw [this]
      by_cases h : a = b <;> simp [h, eK]
    · intro i x y hx hy
      obtain ⟨d1, d2, d3, d4⟩ := idx hx (by omega)
      obtain ⟨_, e2, e3, _⟩ := idx hy (by omega)
      simp only [dK, d1, cond_true, bE d2, bE e2, d3, e3, d4, veq]
      by_cases h : x = y <;> simp [h]
    · simp only [dK, gN, cond_false]
  · rw [IF he, cond_true]
    have : a ≠ b := fun h => he (by rw [h])
    simp [this]

theorem MI (a b : List aI) (hl : a.length ≤ 17592186044416) : sZ a b = some (decide (a = b)) := by
  unfold sZ
  by_cases he : a.length = b.length
  · rw [JB he, cond_false]
    unfold vN
    have := IZ (f := a) (g := b) (body := fun s => oZ a b s) he ?_ ?_ a.length 0 rfl (Nat.zero_le _)
    · simp only [Int.natCast_zero, List.drop_zero] at this
      rw [this]
      by_cases h : a = b <;> simp [h, sF]
    · intro i x y hx hy
      obtain ⟨d1, d2, d3, d4⟩ := idx hx (by omega)
      obtain ⟨_, e2, e3, _⟩ := idx hy (by omega)
      simp only [oZ, d1, cond_true, bE d2, bE e2, d3, e3, d4, veq]
      by_cases h : x = y <;> simp [h]
    · simp only [oZ, gN, cond_false]
  · rw [IF he, cond_true]
    have : a ≠ b := fun h => he (by rw [h])
    simp [this]

structure FD {α : Type} (c : α → α → Int) : Prop where
  eq : ∀ a b, c a b = 0 ↔ a = b
  anti : ∀ a b, c a b < 0 ↔ 0 < c b a
  trans : ∀ a b d, c a b < 0 → c b d < 0 → c a d < 0

def pW (x y : Int) : Int := if x < y then -1 else if y < x then 1 else 0

theorem AM : FD pW where
  eq a b := by unfold pW; (repeat' split) <;> omega
  anti a b := by unfold pW; (repeat' split) <;> omega
  trans a b d := by unfold pW; (repeat' split) <;> omega

def kY {α : Type} [DecidableEq α] (c : α → α → Int) : List α → List α → Int
  | [], [] => 0
  | [], _ :: _ => -1
  | _ :: _, [] => 1
  | a :: r, b :: s => if a = b then kY c r s else c a b

theorem FD.list {α : Type} [DecidableEq α] {c : α → α → Int} (h : FD c) : FD (kY c) where
  eq := by
    intro a
    induction a with
    | nil => intro b; cases b <;> simp [kY]
    | cons x r ih =>
      intro b
      cases b with
      | nil => simp [kY]
      | cons y s =>
        unfold kY
        split
        · rename_i e; subst e; rw [ih]; simp
        · rename_i e
          have := h.eq x y
          constructor
          · intro h0; exact absurd (this.1 h0) e
          · intro h0; cases h0; exact absurd rfl e
  anti := by
    intro a
    induction a with
    | nil => intro b; cases b <;> simp [kY]
    | cons x r ih =>
      intro b
      cases b with
      | nil => simp [kY]
      | cons y s =>
        unfold kY
        by_cases e : x = y
        · subst e; simp only [if_true]; exact ih s
        · rw [if_neg e, if_neg (fun e' => e e'.symm)]; exact h.anti x y
  trans := by
    intro a
    induction a with
    | nil =>
      intro b d
      cases b <;> cases d <;> simp [kY]
    | cons x r ih =>
      intro b d
      cases b with
      | nil => simp [kY]
      | cons y s =>
        cases d with
        | nil => simp [kY]
        | cons z t =>
          unfold kY
          by_cases e1 : x = y
          · subst e1
            rw [if_pos rfl]
            by_cases e2 : x = z
            · subst e2; rw [if_pos rfl, if_pos rfl]; exact ih s t
            · rw [if_neg e2, if_neg e2]; exact fun _ h => h
          · rw [if_neg e1]
            by_cases e2 : y = z
            · have hz : ¬ x = z := fun e => e1 (e.trans e2.symm)
              intro h _
              rw [if_neg hz, ← e2]; exact h
            · rw [if_neg e2]
              intro h1 h2
              by_cases e3 : x = z
              · subst e3
                have h3 := (h.anti x y).1 h1
                omega
              · rw [if_neg e3]; exact h.trans x y z h1 h2

def HA (a b : UInt8) : Int := if a < b then -1 else if b < a then 1 else 0

theorem HE : FD HA where
  eq a b := by
    unfold HA
    constructor
    · intro h
      split at h
      · cases h
      · split at h
        · cases h
        · rename_i h1 h2
          rw [UInt8.lt_iff_toNat_lt] at h1 h2
          exact UInt8.toNat_inj.1 (by omega)
    · rintro rfl
      have : ¬ a < a := by rw [UInt8.lt_iff_toNat_lt]; omega
      simp [this]
  anti a b := by
    unfold HA
    simp only [UInt8.lt_iff_toNat_lt]
    (repeat' split) <;> omega
  trans a b d := by
    unfold HA
    simp only [UInt8.lt_iff_toNat_lt]
    (repeat' split) <;> omega

theorem AS : ∀ (a b : List UInt8), Go.Lib.compareBytes a b = kY HA a b
  | [], [] => rfl
  | [], _ :: _ => rfl
  | _ :: _, [] => rfl
  | a :: r, b :: s => by
    unfold Go.Lib.compareBytes kY
    rw [AS r s]
    by_cases e : a = b
    · subst e
      have : ¬ a < a := by rw [UInt8.lt_iff_toNat_lt]; omega
      simp [this]
    · rw [if_neg e]
      unfold HA
      have : ¬ (¬ a < b ∧ ¬ b < a) := by
        rintro ⟨h1, h2⟩
        rw [UInt8.lt_iff_toNat_lt] at h1 h2
        exact e (UInt8.toNat_inj.1 (by omega))
      by_cases h1 : a < b
      · simp [h1]
      · have h2 : b < a := Classical.byContradiction fun h2 => this ⟨h1, h2⟩
        simp [h1, h2]

def QA (a b : ByteArray) : Int := kY HA a.data.toList b.data.toList

theorem ZS (a b : ByteArray) : JR a b = QA a b := AS _ _

theorem data_inj {x y : ByteArray} (h : x.data.toList = y.data.toList) : x = y := by
  cases x; cases y
  congr 1
  exact Array.toList_inj.1 h

theorem DA : FD QA where
  eq a b := by unfold QA; rw [(HE.list).eq]; exact ⟨data_inj, fun h => by rw [h]⟩
  anti a b := (HE.list).anti _ _
  trans a b d := (HE.list).trans _ _ _

def AF (a b : aI) : Int := if a.Kind = b.Kind then (if a.Num = b.Num then QA a.Text b.Text else pW a.Num b.Num) else pW a.Kind b.Kind

theorem YE : FD AF where
  eq a b := by
    obtain ⟨a1, a2, a3⟩ := a
    obtain ⟨b1, b2, b3⟩ := b
    unfold AF
    simp only [aI.mk.injEq]
    by_cases h1 : a1 = b1
    · by_cases h2 : a2 = b2
      · simp [h1, h2, DA.eq]
      · simp [h1, h2, AM.eq]
    · simp [h1, AM.eq]
  anti a b := by
    unfold AF
    by_cases h1 : a.Kind = b.Kind
    · rw [if_pos h1, if_pos h1.symm]
      by_cases h2 : a.Num = b.Num
      · rw [if_pos h2, if_pos h2.symm]; exact DA.anti _ _
      · rw [if_neg h2, if_neg (fun h => h2 h.symm)]; exact AM.anti _ _
    · rw [if_neg h1, if_neg (fun h => h1 h.symm)]; exact AM.anti _ _
  trans a b d := by
    unfold AF
    intro h1 h2
    have lt : ∀ {x y : Int}, pW x y < 0 → x < y := fun {x y} h => by unfold pW at h; split at h <;> (try split at h) <;> omega
    have mk : ∀ {x y : Int}, x < y → pW x y < 0 := fun {x y} h => by unfold pW; rw [if_pos h]; omega
    by_cases e1 : a.Kind = b.Kind
    · rw [if_pos e1] at h1
      by_cases e2 : b.Kind = d.Kind
      · rw [if_pos e2] at h2
        rw [if_pos (e1.trans e2)]
        by_cases f1 : a.Num = b.Num
        · rw [if_pos f1] at h1
          by_cases f2 : b.Num = d.Num
          · rw [if_pos f2] at h2
            rw [if_pos (f1.trans f2)]
            exact DA.trans _ _ _ h1 h2
          · rw [if_neg f2] at h2
            rw [f1, if_neg f2]; exact h2
        · rw [if_neg f1] at h1
          have g1 := lt h1
          by_cases f2 : b.Num = d.Num
          · rw [← f2, if_neg f1]; exact h1
          · rw [if_neg f2] at h2
            have g2 := lt h2
            rw [if_neg (by omega)]
            exact mk (by omega)
      · rw [if_neg e2] at h2
        rw [e1, if_neg e2]; exact h2
    · rw [if_neg e1] at h1
      have g1 := lt h1
      by_cases e2 : b.Kind = d.Kind
      · rw [← e2, if_neg e1]; exact h1
      · rw [if_neg e2] at h2
        have g2 := lt h2
        rw [if_neg (by omega)]
        exact mk (by omega)

def lB (a b : List aI) : Int := kY AF a b

theorem nI : FD lB := YE.list

end Go.Abs
namespace Go.Abs
open Go
theorem KT (x y : Int) : iT x y = some (pW x y) := by
  unfold iT nT pW
  by_cases h1 : x < y
  · simp [h1]
  · by_cases h2 : y < x <;> simp [h1, h2]

theorem VO (x y : Int) : dZ x y = some (pW x y) := by
  unfold dZ jB pW
  by_cases h1 : x < y
  · simp [h1]
  · by_cases h2 : y < x <;> simp [h1, h2]

theorem FV {v : aI} (h : DG v = true) : v.Kind = 1 ∧ v.Text = (⟨#[]⟩ : ByteArray) := by
  simp only [DG, KX, Bool.and_eq_true, decide_eq_true_eq] at h; exact h

theorem CM {v : aI} (h : CL v = true) : v.Kind = 2 ∧ v.Num = 0 ∧ v.Text.size ≤ 64 := by
  simp only [CL, Bool.and_eq_true, decide_eq_true_eq] at h; exact ⟨h.1.1, h.1.2, by omega⟩

theorem SA {v : aI} (h : DP v = true) : DG v = true ∨ (DG v = false ∧ CL v = true) := by
  unfold DP at h
  cases hn : DG v
  · rw [hn] at h; exact .inr ⟨rfl, by simpa using h⟩
  · exact .inl rfl

theorem US (a : ByteArray) : QA a a = 0 := (DA.eq a a).2 rfl

theorem FJ (a : Int) : pW a a = 0 := (AM.eq a a).2 rfl

theorem VJ {a b : aI} (ha : DP a = true) (hb : DP b = true) : pM a b = some (AF a b) := by
  unfold pM
  simp only [of_eq, Option.bind_some]
  rcases SA ha with h1 | ⟨h1, h1'⟩ <;> rcases SA hb with h2 | ⟨h2, h2'⟩
  · obtain ⟨k1, t1⟩ := FV h1
    obtain ⟨k2, t2⟩ := FV h2
    simp only [h1, h2, if_true, Bool.not_true, Bool.or_self, cond_false, VO, Option.bind_some]
    unfold AF
    rw [k1, k2, t1, t2, if_pos rfl, US]
    by_cases hn : a.Num = b.Num
    · rw [if_pos hn, hn, FJ]
    · rw [if_neg hn]
  · obtain ⟨k1, t1⟩ := FV h1
    obtain ⟨k2, n2, _⟩ := CM h2'
    simp only [h1, h2, h2', if_true, Bool.false_eq_true, if_false, Bool.not_true, Bool.or_self, cond_false]
    unfold AF
    rw [k1, k2]; rfl
  · obtain ⟨k1, n1, _⟩ := CM h1'
    obtain ⟨k2, t2⟩ := FV h2
    simp only [h1, h1', h2, if_true, Bool.false_eq_true, if_false, Bool.not_true, Bool.or_self, cond_false]
    unfold AF
    rw [k1, k2]; rfl
  · obtain ⟨k1, n1, _⟩ := CM h1'
    obtain ⟨k2, n2, _⟩ := CM h2'
    simp only [h1, h1', h2, h2', if_true, Bool.false_eq_true, if_false, Bool.not_true, Bool.or_self, cond_false]
    unfold AF mL iC
    rw [k1, k2, n1, n2, if_pos rfl, if_pos rfl]
    simp [ZS]

theorem SF {r : List aI} (h : pX r = true) : r.length ≤ 8 ∧ ∀ v ∈ r, DP v = true := by
  simp only [pX, Bool.and_eq_true, decide_eq_true_eq, List.all_eq_true] at h; exact h

theorem XY {a b : List aI} {k : Nat} (hk : k = a.length ∨ k = b.length) (h1 : k ≤ a.length) (h2 : k ≤ b.length) : lB (a.drop k) (b.drop k) = pW a.length b.length := by
  rcases hk with rfl | rfl
  · rw [List.drop_length]
    by_cases h : a.length = b.length
    · rw [h, List.drop_length, FJ]; rfl
    · rw [List.drop_eq_getElem_cons (by omega)]
      show (-1 : Int) = _
      unfold pW; rw [if_pos (by omega)]
  · rw [List.drop_length]
    by_cases h : a.length = b.length
    · rw [← h, List.drop_length, FJ]; rfl
    · rw [List.drop_eq_getElem_cons (by omega)]
      show (1 : Int) = _
      unfold pW; rw [if_neg (by omega), if_pos (by omega)]

theorem SI {a b : List aI} (hl : a.length ≤ 8) (hlb : b.length ≤ 8) (n : Nat) (hn : n = min a.length b.length) : ∀ (m k : Nat), n - k = m → k ≤ n →
    ∃ x, lp (fun s : Int × Int => bY (fun st y0 => (iU y0 st b).bind fun o => some (o.2, o.1)) (a.take n) (n : Nat) s.1 s.2) ((k : Int) - 1, (k : Int)) = some x ∧
      ((∃ sg, x = .inl sg ∧ lB (a.drop k) (b.drop k) = pW a.length b.length) ∨
        (∃ i : Nat, x = .inr ((i : Int), (i : Int)) ∧ i < a.length ∧ i < b.length ∧ lB (a.drop k) (b.drop k) = AF (a.getD i default) (b.getD i default)))
  | 0, k, hm, hk => by
    have : k = n := by omega
    subst this
    refine ⟨.inl ((k : Int) - 1), cM ?_, .inl ⟨_, rfl, XY (by omega) (by omega) (by omega)⟩⟩
    show bY _ _ _ _ _ = _
    simp only [bY, gN, cond_false]
  | m + 1, k, hm, hk => by
    have h1 : k < a.length := by omega
    have h2 : k < b.length := by omega
    have ht : (a.take n)[k]? = some a[k] := by
      rw [List.getElem?_take_of_lt (by omega)]; exact List.getElem?_eq_getElem h1
    obtain ⟨d1, d2, d3, d4⟩ := idx ht (by simp; omega)
    have hlt : (a.take n).length = n := by simp; omega
    rw [hlt] at d1 d2
    obtain ⟨_, e2, e3, _⟩ := idx (List.getElem?_eq_getElem h2) (by omega)
    have hw : IntKind.i64.wrap ((k : Int) - 1 + 1) = (k : Int) := by rw [eE (by omega) (by omega)]; omega
    have hb : (fun s : Int × Int => bY (fun st y0 => (iU y0 st b).bind fun o => some (o.2, o.1)) (a.take n) (n : Nat) s.1 s.2) ((k : Int) - 1, (k : Int)) =
        some (if a[k] = b[k] then .inl ((k : Int), ((k + 1 : Nat) : Int)) else .inr (.inr ((k : Int), (k : Int)))) := by
      show bY _ _ _ _ _ = _
      simp only [bY, d1, cond_true, hlt, bE d2, d3, d4, iU, hw, bE e2, e3, veq, Option.bind_some]
      by_cases h : a[k] = b[k] <;> simp [h]
    have ea : a.drop k = a[k] :: a.drop (k + 1) := List.drop_eq_getElem_cons h1
    have eb : b.drop k = b[k] :: b.drop (k + 1) := List.drop_eq_getElem_cons h2
    by_cases h : a[k] = b[k]
    · rw [if_pos h] at hb
      obtain ⟨x, e, hx⟩ := SI hl hlb n hn m (k + 1) (by omega) (by omega)
      have hc : lB (a.drop k) (b.drop k) = lB (a.drop (k + 1)) (b.drop (k + 1)) := by
        rw [ea, eb]; unfold lB; rw [kY, if_pos h]
      refine ⟨x, ?_, by rw [hc]; exact hx⟩
      rw [dO hb]
      rw [show ((k + 1 : Nat) : Int) - 1 = (k : Int) by omega] at e
      exact e
    · rw [if_neg h] at hb
      refine ⟨_, cM hb, .inr ⟨k, rfl, h1, h2, ?_⟩⟩
      rw [ea, eb]; unfold lB; rw [kY, if_neg h]
      simp [List.getD_eq_getElem?_getD, h1, h2]

theorem LD (a b : List aI) : pF a b = some (if pX a && pX b then lB a b else 0) := by
  unfold pF
  rw [BX]
  simp only [Option.bind_some]
  cases ha : pX a
  · simp [dF]
  · simp only [Bool.not_true, Bool.not_false, dF, cond_true, BX, Option.bind_some, Bool.false_or]
    cases hb : pX b
    · simp
    · obtain ⟨la, ma⟩ := SF ha
      obtain ⟨lb, mb⟩ := SF hb
      have hif : (if ((List.length b : Nat) : Int) < ((List.length a : Nat) : Int) then ((List.length b : Nat) : Int) else ((List.length a : Nat) : Int)) = ((min a.length b.length : Nat) : Int) := by split <;> omega
      have hlt : (a.take (min a.length b.length)).length = min a.length b.length := by rw [List.length_take]; omega
      simp only [Bool.not_true, cond_false, hif, Int.toNat_natCast, sV, Option.bind_some, eZ, eS, hlt, Bool.and_self, if_true]
      rw [bE ⟨by omega, by omega⟩]
      obtain ⟨x, e, hx⟩ := SI (a := a) (b := b) la lb _ rfl _ 0 rfl (Nat.zero_le _)
      have e' : lp (fun s : Int × Int => bY (fun st y0 => (iU y0 st b).bind fun o => some (o.2, o.1)) (a.take (min a.length b.length)) (min a.length b.length : Nat) s.1 s.2) ((-1 : Int), (0 : Int)) = some x := e
      rw [e']
      simp only [List.drop_zero] at hx
      rcases hx with ⟨sg, rfl, h⟩ | ⟨i, rfl, h1, h2, h⟩
      · simp [dH, KT, h]
      · have hi : decide ((i : Int) < 0) = false := by simp
        simp only [Option.bind_some, Sum.elim_inr, hi, cond_false, Int.toNat_natCast]
        rw [bE ⟨by omega, by omega⟩, bE ⟨by omega, by omega⟩]
        have g1 : a.getD i default ∈ a := by simp [List.getD_eq_getElem?_getD, h1]
        have g2 : b.getD i default ∈ b := by simp [List.getD_eq_getElem?_getD, h2]
        rw [VJ (ma _ g1) (mb _ g2), h]
        simp only [Option.bind_some]

end Go.Abs
namespace Go.Abs
open Go
def jE (e : aD) : aB := ⟨e.At, e.Net⟩

def gA (r : List aI) (f : List aB) : List aD → List (List aI × List aB)
  | [] => [(r, f)]
  | e :: l => if e.Row = r then gA r (f ++ [jE e]) l else (r, f) :: gA e.Row [jE e] l

def groups : List aD → List (List aI × List aB)
  | [] => []
  | e :: l => gA e.Row [jE e] l

def itG {σ : Type} (y : σ → List aI → List aB → Option (σ × Bool)) : List (List aI × List aB) → σ → Option σ
  | [], s => some s
  | g :: gs, s => (y s g.1 g.2).bind fun x => if x.2 then itG y gs x.1 else some x.1

def okL (l : List aD) : Prop := l.length ≤ 3518437208783 ∧ ∀ e ∈ l, e.Row.length ≤ 4398046510976

theorem DF {r : List aI} (h : r.length ≤ 4398046510976) : rD r = some r := by
  unfold rD
  rw [bE ⟨by omega, by omega, by omega⟩, bE (by simp only [List.length_nil, Nat.zero_add]; omega)]
  rfl

theorem IA {σ : Type} {y : σ → List aI → List aB → Option (σ × Bool)} {l : List aD} (hl : okL l) (row : List aI) (sg : σ) : ∀ (r : List aD) (k : Nat) (f : List aB), l.drop k = r → k ≤ l.length → f.length ≤ k →
    ∃ k' f', k ≤ k' ∧ k' ≤ l.length ∧ f'.length ≤ k' ∧ lp (fun s : σ × Int × List aB => iF y l row s.1 s.2.1 s.2.2) (sg, (k : Int), f) = some (sg, ((k' : Nat) : Int), f') ∧
      gA row f r = (row, f') :: groups (l.drop k') ∧ (∀ e r', r = e :: r' → e.Row = row → k < k')
  | [], k, f, hd, hk, hf => by
    have : k = l.length := by
      have := congrArg List.length hd
      simp only [List.length_drop, List.length_nil] at this; omega
    subst this
    refine ⟨l.length, f, Nat.le_refl _, Nat.le_refl _, hf, cM ?_, by simp [gA, groups], fun e r' h => by cases h⟩
    show iF _ _ _ _ _ _ = _
    simp only [iF, gN, dF, cond_false, Option.bind_some, Bool.false_and]
    exact bE (fun h => by cases h)
  | a :: r, k, f, hd, hk, hf => by
    obtain ⟨h1, h2⟩ := drop_cons hd
    have hlt : k < l.length := (List.getElem?_eq_some_iff.1 h1).1
    obtain ⟨hll, hlr⟩ := hl
    obtain ⟨d1, d2, d3, d4⟩ := idx h1 (by omega)
    have har := hlr a (List.mem_of_getElem? h1)
    have hb : (fun s : σ × Int × List aB => iF y l row s.1 s.2.1 s.2.2) (sg, (k : Int), f) = some (if a.Row = row then .inl (sg, ((k + 1 : Nat) : Int), f ++ [jE a]) else .inr (sg, (k : Int), f)) := by
      show iF _ _ _ _ _ _ = _
      simp only [iF, d1, d3, d4, dF, cond_true, IB a.Row row (by omega), Option.bind_some, Bool.true_and]
      rw [bE (fun _ => d2)]
      by_cases e : a.Row = row
      · simp only [e, decide_true, cond_true, if_true]
        rw [bE d2, bE d2, bE (by simp only [List.length_cons, List.length_nil]; omega)]
        rfl
      · simp [e]
    by_cases e : a.Row = row
    · rw [if_pos e] at hb
      obtain ⟨k', f', g1, g2, g3, g4, g5, _⟩ := IA ⟨hll, hlr⟩ row sg r (k + 1) (f ++ [jE a]) h2 (by omega) (by simp; omega) (y := y)
      refine ⟨k', f', by omega, g2, g3, by rw [dO hb]; exact g4, by simp [gA, e, g5], fun _ _ _ _ => by omega⟩
    · rw [if_neg e] at hb
      refine ⟨k, f, Nat.le_refl _, hk, hf, cM hb, ?_, fun b r' h hr => by cases h; exact absurd hr e⟩
      rw [hd]; simp [gA, e, groups]

theorem TV {σ : Type} {y : σ → List aI → List aB → Option (σ × Bool)} {l : List aD} (hl : okL l) : ∀ (m k : Nat) (sg s' : σ), l.length - k ≤ m → k ≤ l.length → itG y (groups (l.drop k)) sg = some s' →
    ∃ x, lp (fun s : σ × Int => fN y l s.1 s.2) (sg, (k : Int)) = some x ∧ Sum.elim id id x = s' := by
  have stop : ∀ (sg s' : σ), itG y (groups (l.drop l.length)) sg = some s' → ∃ x, lp (fun s : σ × Int => fN y l s.1 s.2) (sg, ((l.length : Nat) : Int)) = some x ∧ Sum.elim id id x = s' := by
    intro sg s' h
    rw [List.drop_length] at h
    simp only [groups, itG, Option.some.injEq] at h
    refine ⟨.inl sg, cM ?_, h⟩
    show fN _ _ _ _ = _
    simp only [fN, gN, cond_false]
  intro m
  induction m with
  | zero =>
    intro k sg s' hm hk h
    have : k = l.length := by omega
    subst this; exact stop sg s' h
  | succ m ih =>
    intro k sg s' hm hk h
    by_cases he : k = l.length
    · subst he; exact stop sg s' h
    · have hlt : k < l.length := by omega
      have hd : l.drop k = l[k] :: l.drop (k + 1) := List.drop_eq_getElem_cons hlt
      obtain ⟨d1, d2, d3, d4⟩ := idx (List.getElem?_eq_getElem hlt) (by have := hl.1; omega)
      obtain ⟨k', f', g1, g2, g3, g4, g5, g6⟩ := IA hl l[k].Row sg (l.drop k) k [] rfl hk (by simp) (y := y)
      have hk' := g6 _ _ hd rfl
      have hg : groups (l.drop k) = (l[k].Row, f') :: groups (l.drop k') := by
        rw [← g5, hd]; simp [groups, gA]
      rw [hg] at h
      simp only [itG] at h
      obtain ⟨x, hx, h⟩ := aY h
      have hrow := hl.2 _ (List.getElem_mem hlt)
      have hb : (fun s : σ × Int => fN y l s.1 s.2) (sg, (k : Int)) = some (if x.2 then .inl (x.1, ((k' : Nat) : Int)) else .inr (.inr x.1)) := by
        show fN _ _ _ _ = _
        simp only [fN, d1, cond_true, bE d2, d3, rH, g4, Option.bind_some, oR, DF hrow, hx]
        cases x.2 <;> simp
      cases hx2 : x.2
      · rw [hx2] at hb h
        simp only [Bool.false_eq_true, if_false, Option.some.injEq] at hb h
        exact ⟨_, cM hb, h⟩
      · rw [hx2] at hb h
        simp only [if_true] at hb h
        obtain ⟨z, hz1, hz2⟩ := ih k' x.1 s' (by omega) g2 h
        exact ⟨z, by rw [dO hb]; exact hz1, hz2⟩

theorem JN {σ : Type} {y : σ → List aI → List aB → Option (σ × Bool)} {l : List aD} (hl : okL l) {s s' : σ} (h : itG y (groups l) s = some s') : mH y l s = some s' := by
  unfold mH rC
  obtain ⟨x, h1, h2⟩ := TV hl l.length 0 s s' (by omega) (Nat.zero_le _) (by simpa using h)
  simp only [Int.natCast_zero] at h1
  rw [h1]
  cases x <;> simpa using h2

def ahd (last : Option (List aI)) (r : List aI) : Bool := match last with
  | none => true
  | some q => decide (lB q r < 0)

def vU (p : List aB → Bool) : Option (List aI) → List (List aI × List aB) → Bool
  | _, [] => true
  | last, g :: gs => (pX g.1 && ahd last g.1 && p g.2) && vU p (some g.1) gs

theorem SP {holds : List aB → Option Bool} {p : List aB → Bool} (hp : ∀ f, holds f = some (p f)) (c : List aD) (t : Bool) : ∀ (gs : List (List aI × List aB)) (last : List aI) (b : Bool), (b = true → pX last = true) →
    ∃ x, itG (fun st r f => rnd (fun (s : Bool × (List aI) × Bool) => oT holds c s.1 s.2.1 s.2.2 r f) st) gs (.inl (t, last, b)) = some x ∧
      (if vU p (if b then some last else none) gs then ∃ u, x = .inl (t, u) else ∃ u, x = .inr (false, u))
  | [], last, b, _ => ⟨_, rfl, by simp [vU]⟩
  | g :: gs, last, b, hb => by
    have hy : oT holds c t last b g.1 g.2 = some (if pX g.1 && ahd (if b then some last else none) g.1 && p g.2 then .inl (t, g.1, true) else .inr (false, last, b)) := by
      unfold oT
      simp only [BX, Option.bind_some, LD, hp]
      cases hm : pX g.1
      · simp [dF]
      · cases b
        · cases h2 : p g.2 <;> simp [dF, ahd, h2]
        · have hl := hb rfl
          by_cases h1 : lB last g.1 < 0
          · have h1' : ¬ (0 ≤ lB last g.1) := by omega
            cases h2 : p g.2 <;> simp [dF, ahd, h2, hl, h1, h1']
          · have h1' : 0 ≤ lB last g.1 := by omega
            simp [dF, ahd, hl, h1, h1']
    cases hc : (pX g.1 && ahd (if b then some last else none) g.1 && p g.2)
    · rw [hc] at hy
      simp only [itG, rnd, hy, Option.bind_some, vU, hc]
      exact ⟨.inr (false, last, b), by simp, by simp⟩
    · rw [hc] at hy
      simp only [itG, rnd, hy, Option.bind_some, vU, hc]
      have hm : pX g.1 = true := by simp only [Bool.and_eq_true] at hc; exact hc.1.1
      obtain ⟨x, h1, h2⟩ := SP hp c t gs g.1 true (fun _ => hm)
      refine ⟨x, ?_, ?_⟩
      · simpa [rnd] using h1
      · simpa using h2

theorem SE {l : List aD} (hl : okL l) {holds : List aB → Option Bool} {p : List aB → Bool} (hp : ∀ f, holds f = some (p f)) : sK l holds = some (decide (l.length ≤ 4096) && vU p none (groups l)) := by
  unfold sK
  by_cases h : l.length ≤ 4096
  · have h1 : decide ((4096 : Int) < ((l.length : Nat) : Int)) = false := by simp; omega
    rw [h1, cond_false]
    simp only [oK, Option.bind_some, xC]
    obtain ⟨x, e1, e2⟩ := SP hp l false (groups l) [] false (fun h => by cases h)
    rw [JN hl e1]
    simp only [Bool.false_eq_true, if_false] at e2
    simp only [h, decide_true, Bool.true_and]
    cases hc : vU p none (groups l)
    · rw [hc] at e2
      simp only [Bool.false_eq_true, if_false] at e2
      obtain ⟨u, rfl⟩ := e2
      rfl
    · rw [hc] at e2
      simp only [if_true] at e2
      obtain ⟨u, rfl⟩ := e2
      rfl
  · have h1 : decide ((4096 : Int) < ((l.length : Nat) : Int)) = true := by simp; omega
    rw [h1, cond_true]
    simp [h]

def BL (l : List aD) : Bool := decide (l.length ≤ 4096) && vU iX none (groups l)

theorem RQ {l : List aD} (hl : okL l) : uB l = some (BL l) := by
  unfold uB
  rw [SE hl (p := iX) (fun f => ES f)]; rfl

def KN (f : List aB) : Bool := iX f && decide (0 ≤ tU f)

def AB (l : List aD) : Bool := decide (l.length ≤ 4096) && vU KN none (groups l)

theorem UZ {l : List aD} (hl : okL l) : tO l = some (AB l) := by
  unfold tO
  rw [SE hl (p := KN) (fun f => by
    unfold qE KN
    rw [ES]
    cases h : iX f <;> simp [dF, NZ, h])]
  rfl

def lX (r : List aI) (f : List aB) : List aD := f.map fun j => ⟨r, j.At, j.Net⟩

theorem put_eq {out : List aD} {r : List aI} {f : List aB} (hr : r.length ≤ 4398046510976) (hl : out.length + f.length ≤ 1099511627776) : wV out r f = some (out ++ lX r f) := by
  unfold wV xX
  rw [qV (l := f) (body := fun s : List aD × Int => oH r f (f.length : Nat) s.1 s.2) (fun o i => (o, i)) (fun o t => o ++ lX r t) (fun o t => o.length + t.length ≤ 1099511627776) out ?_ ?_ hl]
  · rfl
  · intro i a t o ha hi
    left
    obtain ⟨d1, d2, d3, d4⟩ := idx ha (by have := (List.getElem?_eq_some_iff.1 ha).1; omega)
    simp only [List.length_cons] at hi
    refine ⟨o ++ [⟨r, a.At, a.Net⟩], ?_, by simp; omega, by simp [lX]⟩
    show oH _ _ _ _ _ = _
    simp only [oH, d1, cond_true, bE d2, d3, d4, DF hr, Option.bind_some]
    exact bE (by simp only [List.length_cons, List.length_nil]; omega)
  · intro o _
    show oH _ _ _ _ _ = _
    simp only [oH, gN, cond_false]
    simp [lX]

def tR (by1 : List aB → List aB × Int) : List (List aI × List aB) → List aD → List aD × Int
  | [], out => (out, 0)
  | g :: gs, out => if (by1 g.2).2 ≠ 0 then ([], (by1 g.2).2) else if 4096 < (out ++ lX g.1 (by1 g.2).1).length then ([], 7) else tR by1 gs (out ++ lX g.1 (by1 g.2).1)

theorem KU {by0 : List aB → Option (List aB × Int)} {by1 : List aB → List aB × Int} (c : List aD) : ∀ (gs : List (List aI × List aB)) (out : List aD), out.length ≤ 4096 → (∀ g ∈ gs, by0 g.2 = some (by1 g.2) ∧ (by1 g.2).1.length ≤ 1024 ∧ g.1.length ≤ 4398046510976) →
    ∃ x, itG (fun st r f => rnd (fun (s : (List aD) × Int × List aD) => nA by0 c s.1 s.2.1 s.2.2 r f) st) gs (.inl ([], 0, out)) = some x ∧ Sum.elim (fun s : (List aD) × Int × List aD => (s.2.2, (0 : Int))) (fun s => (s.1, s.2.1)) x = tR by1 gs out
  | [], out, _, _ => ⟨_, rfl, rfl⟩
  | g :: gs, out, ho, hg => by
    obtain ⟨h1, h2, h3⟩ := hg g (by simp)
    have hy : nA by0 c [] 0 out g.1 g.2 = some (if (by1 g.2).2 ≠ 0 then .inr ([], (by1 g.2).2, out) else if 4096 < (out ++ lX g.1 (by1 g.2).1).length then .inr ([], 7, out ++ lX g.1 (by1 g.2).1) else .inl ([], 0, out ++ lX g.1 (by1 g.2).1)) := by
      unfold nA
      simp only [h1, Option.bind_some, put_eq h3 (show out.length + (by1 g.2).1.length ≤ 1099511627776 by omega)]
      by_cases e1 : (by1 g.2).2 = 0
      · by_cases e2 : 4096 < (out ++ lX g.1 (by1 g.2).1).length
        · have e2' : (4096 : Int) < (((out ++ lX g.1 (by1 g.2).1).length : Nat) : Int) := by omega
          simp only [e1, e2, e2', decide_true, Bool.not_true, cond_false, cond_true, ne_eq, not_true_eq_false, if_false, if_true]
        · have e2' : ¬ (4096 : Int) < (((out ++ lX g.1 (by1 g.2).1).length : Nat) : Int) := by omega
          simp only [e1, e2, e2', decide_true, decide_false, Bool.not_true, cond_false, ne_eq, not_true_eq_false, if_false]
      · simp only [e1, decide_false, Bool.not_false, cond_true, ne_eq, not_false_eq_true, if_true]
    simp only [itG, rnd, hy, Option.bind_some, tR]
    by_cases e1 : (by1 g.2).2 ≠ 0
    · rw [if_pos e1, if_pos e1]; exact ⟨_, rfl, rfl⟩
    · rw [if_neg e1, if_neg e1]
      by_cases e2 : 4096 < (out ++ lX g.1 (by1 g.2).1).length
      · rw [if_pos e2, if_pos e2]; exact ⟨_, rfl, rfl⟩
      · rw [if_neg e2, if_neg e2]
        exact KU c gs _ (by omega) (fun q hq => hg q (by simp [hq]))

theorem WT {l : List aD} (hl : okL l) {by0 : List aB → Option (List aB × Int)} {by1 : List aB → List aB × Int} (hb : ∀ g ∈ groups l, by0 g.2 = some (by1 g.2) ∧ (by1 g.2).1.length ≤ 1024 ∧ g.1.length ≤ 4398046510976) : sE l by0 = some (tR by1 (groups l) []) := by
  unfold sE
  simp only [oK, Option.bind_some, uH]
  obtain ⟨x, e1, e2⟩ := KU (by0 := by0) (by1 := by1) l (groups l) [] (by simp) hb
  rw [JN hl e1]
  cases x <;> simpa using e2

def flat (gs : List (List aI × List aB)) : List aD := gs.flatMap fun g => lX g.1 g.2

theorem JW : ∀ (l : List aD) (r : List aI) (f : List aB), flat (gA r f l) = lX r f ++ l
  | [], r, f => by simp [gA, flat]
  | e :: l, r, f => by
    unfold gA
    split
    · rename_i h
      rw [JW l r]
      simp [lX, jE, ← h]
    · have := JW l e.Row [jE e]
      simp only [flat, List.flatMap_cons] at this ⊢
      rw [this]
      simp [lX, jE]

theorem GF (l : List aD) : flat (groups l) = l := by
  cases l with
  | nil => rfl
  | cons e l => unfold groups; rw [JW]; simp [lX, jE]

theorem OM {r : List aI} : ∀ {l : List aD} {f : List aB} {g : List aI × List aB}, g ∈ gA r f l → f ≠ [] → g.2 ≠ [] ∧ (g.1 = r ∨ ∃ e ∈ l, g.1 = e.Row)
  | [], f, g, h, hf => by simp only [gA, List.mem_singleton] at h; subst h; exact ⟨hf, .inl rfl⟩
  | e :: l, f, g, h, hf => by
    unfold gA at h
    split at h
    · obtain ⟨h1, h2⟩ := OM h (by simp)
      exact ⟨h1, h2.imp id fun ⟨x, hx, hx'⟩ => ⟨x, by simp [hx], hx'⟩⟩
    · rcases List.mem_cons.1 h with rfl | h
      · exact ⟨hf, .inl rfl⟩
      · obtain ⟨h1, h2⟩ := OM (r := e.Row) h (by simp)
        refine ⟨h1, .inr ?_⟩
        rcases h2 with h2 | ⟨x, hx, hx'⟩
        · exact ⟨e, by simp, h2⟩
        · exact ⟨x, by simp [hx], hx'⟩

theorem IT {l : List aD} {g : List aI × List aB} (h : g ∈ groups l) : g.2 ≠ [] ∧ ∃ e ∈ l, g.1 = e.Row := by
  cases l with
  | nil => simp [groups] at h
  | cons e l =>
    obtain ⟨h1, h2⟩ := OM h (by simp)
    refine ⟨h1, ?_⟩
    rcases h2 with h2 | ⟨x, hx, hx'⟩
    · exact ⟨e, by simp, h2⟩
    · exact ⟨x, by simp [hx], hx'⟩

end Go.Abs
namespace Go.Abs
open Go
def kD (l : List aD) (r : List aI) : List aB := (l.filter fun e => decide (e.Row = r)).map jE

theorem CA (a b : List aD) (r : List aI) : kD (a ++ b) r = kD a r ++ kD b r := by simp [kD]

theorem MQ (q : List aI) (f : List aB) (r : List aI) : kD (lX q f) r = if q = r then f else [] := by
  induction f with
  | nil => simp [kD, lX]
  | cons j f ih =>
    have h1 : lX q (j :: f) = [⟨q, j.At, j.Net⟩] ++ lX q f := rfl
    rw [h1, CA, ih]
    by_cases h : q = r <;> simp [kD, jE, h]

def look : List (List aI × List aB) → List aI → List aB
  | [], _ => []
  | g :: gs, r => if g.1 = r then g.2 else look gs r

theorem AO (g : List aI × List aB) (gs : List (List aI × List aB)) (r : List aI) : look (g :: gs) r = if g.1 = r then g.2 else look gs r := rfl

abbrev ltG (a b : List aI × List aB) : Prop := lB a.1 b.1 < 0

abbrev HO (gs : List (List aI × List aB)) : Prop := gs.Pairwise ltG

theorem xP {a : List aI} : ¬ lB a a < 0 := by rw [(nI.eq a a).2 rfl]; omega

theorem LA : ∀ {gs : List (List aI × List aB)} {r : List aI}, (∀ g ∈ gs, g.1 ≠ r) → look gs r = []
  | [], _, _ => rfl
  | g :: gs, r, h => by
    rw [AO]
    rw [if_neg (h g (by simp))]
    exact LA fun q hq => h q (by simp [hq])

theorem SZ (gs : List (List aI × List aB)) (r : List aI) : (look gs r = [] ∧ ∀ g ∈ gs, g.1 ≠ r) ∨ ∃ g ∈ gs, g.1 = r ∧ look gs r = g.2 := by
  induction gs with
  | nil => exact .inl ⟨rfl, by simp⟩
  | cons g gs ih =>
    rw [AO]
    by_cases h : g.1 = r
    · rw [if_pos h]; exact .inr ⟨g, by simp, h, rfl⟩
    · rw [if_neg h]
      rcases ih with ⟨h1, h2⟩ | ⟨q, hq, h1, h2⟩
      · refine .inl ⟨h1, fun q hq => ?_⟩
        rcases List.mem_cons.1 hq with rfl | hq
        · exact h
        · exact h2 q hq
      · exact .inr ⟨q, by simp [hq], h1, h2⟩

theorem CN {gs : List (List aI × List aB)} (hs : HO gs) {g : List aI × List aB} (hg : g ∈ gs) : look gs g.1 = g.2 := by
  induction gs with
  | nil => simp at hg
  | cons q gs ih =>
    have hs' := List.pairwise_cons.1 hs
    rw [AO]
    rcases List.mem_cons.1 hg with rfl | hg
    · rw [if_pos rfl]
    · rw [if_neg (fun e => by have := hs'.1 g hg; simp only [ltG, e] at this; exact xP this)]
      exact ih hs'.2 hg

theorem KY (g : List aI × List aB) (gs : List (List aI × List aB)) : flat (g :: gs) = lX g.1 g.2 ++ flat gs := rfl

theorem EH : ∀ {gs : List (List aI × List aB)}, HO gs → ∀ r, kD (flat gs) r = look gs r
  | [], _, r => rfl
  | g :: gs, hs, r => by
    have hs' := List.pairwise_cons.1 hs
    rw [KY, CA, MQ, EH hs'.2, AO]
    by_cases h : g.1 = r
    · rw [if_pos h, if_pos h, LA, List.append_nil]
      intro q hq e
      have := hs'.1 q hq
      simp only [ltG, h, e] at this; exact xP this
    · rw [if_neg h, if_neg h]; rfl

theorem yQ {p : List aB → Bool} : ∀ {gs : List (List aI × List aB)} {last : Option (List aI)}, vU p last gs = true ↔ (∀ g ∈ gs, pX g.1 = true ∧ p g.2 = true) ∧ HO gs ∧ (∀ q, last = some q → ∀ g ∈ gs, lB q g.1 < 0)
  | [], last => by simp [vU]
  | g :: gs, last => by
    unfold vU
    simp only [Bool.and_eq_true, yQ (gs := gs), List.mem_cons, List.pairwise_cons]
    constructor
    · rintro ⟨⟨⟨h1, h2⟩, h3⟩, h4, h5, h6⟩
      refine ⟨?_, ⟨fun q hq => h6 _ rfl q hq, h5⟩, ?_⟩
      · rintro q (rfl | hq)
        · exact ⟨h1, h3⟩
        · exact h4 q hq
      · rintro q rfl x (rfl | hx)
        · simpa [ahd] using h2
        · simp only [ahd, decide_eq_true_eq] at h2
          exact nI.trans _ _ _ h2 (h6 _ rfl x hx)
    · rintro ⟨h1, ⟨h2, h3⟩, h4⟩
      refine ⟨⟨⟨(h1 g (.inl rfl)).1, ?_⟩, (h1 g (.inl rfl)).2⟩, fun q hq => h1 q (.inr hq), h3, ?_⟩
      · unfold ahd
        split
        · rfl
        · exact decide_eq_true (h4 _ rfl g (.inl rfl))
      · rintro q hq x hx
        cases hq
        exact h2 x hx

theorem JZ {l : List aD} (h : BL l = true) : l.length ≤ 4096 ∧ (∀ g ∈ groups l, pX g.1 = true ∧ iX g.2 = true) ∧ HO (groups l) := by
  simp only [BL, Bool.and_eq_true, decide_eq_true_eq] at h
  obtain ⟨h1, h2, _⟩ := yQ.1 h.2
  exact ⟨h.1, h1, h2⟩

theorem wX {l : List aD} (h : HO (groups l)) (r : List aI) : look (groups l) r = kD l r := by
  rw [← EH h, GF]

theorem RO (r : List aI) (f : List aB) (e : aD) (l : List aD) : gA r f (e :: l) = if e.Row = r then gA r (f ++ [jE e]) l else (r, f) :: gA e.Row [jE e] l := rfl

def TP (by1 : List aB → List aB × Int) (gs : List (List aI × List aB)) : List (List aI × List aB) := gs.map fun g => (g.1, (by1 g.2).1)

theorem SL {by1 : List aB → List aB × Int} : ∀ {gs : List (List aI × List aB)} {out : List aD}, out.length ≤ 4096 → (tR by1 gs out).2 = 0 → (∀ g ∈ gs, (by1 g.2).2 = 0) ∧ (tR by1 gs out).1 = out ++ flat (TP by1 gs) ∧ (tR by1 gs out).1.length ≤ 4096
  | [], out, ho, _ => by simp [tR, TP, flat, ho]
  | g :: gs, out, ho, h => by
    unfold tR at h ⊢
    by_cases e1 : (by1 g.2).2 = 0
    · rw [if_neg (by simp [e1])] at h ⊢
      by_cases e2 : 4096 < (out ++ lX g.1 (by1 g.2).1).length
      · rw [if_pos e2] at h; simp at h
      · rw [if_neg e2] at h ⊢
        obtain ⟨h1, h2, h3⟩ := SL (by omega) h
        refine ⟨?_, ?_, h3⟩
        · intro q hq
          rcases List.mem_cons.1 hq with rfl | hq
          · exact e1
          · exact h1 q hq
        · rw [h2]; simp [TP, KY]
    · rw [if_pos e1] at h; exact absurd h e1

theorem PA {by1 : List aB → List aB × Int} : ∀ {gs : List (List aI × List aB)} {out : List aD}, (tR by1 gs out).2 ≠ 0 → (tR by1 gs out).1 = []
  | [], out, h => by simp [tR] at h
  | g :: gs, out, h => by
    unfold tR at h ⊢
    split
    · rfl
    · rename_i e1
      rw [if_neg e1] at h
      split
      · rfl
      · rename_i e2
        rw [if_neg e2] at h
        exact PA h

theorem LB {l : List aD} (hl : okL l) {g : List aI × List aB} (hg : g ∈ groups l) : g.1.length ≤ 4398046510976 := by
  obtain ⟨_, e, he, h⟩ := IT hg
  rw [h]; exact hl.2 e he

end Go.Abs
namespace Go.Abs
theorem UQ : @dL = @nE aD _ := rfl

theorem SS : @dU = @dX aD _ := rfl

theorem OA (cmp) : ∀ k, @fZ cmp k = @eA aD _ cmp k
  | 0 => rfl
  | k + 1 => by
    show dU cmp _ = dX cmp _
    rw [OA cmp k, SS]

theorem UT : @eH = @oD aD _ := by
  funext d a m b cmp
  unfold eH oD
  simp only [OA]

theorem NF : @fC = @wH aD _ := by
  funext d n cmp
  unfold fC wH gT yD
  unfold gZ mB eU yB
  unfold gS yC iB jJ
  unfold gV uS hU mE
  unfold eX vD
  rw [UT, UQ]
  rfl

end Go.Abs
namespace Go.Abs
open Go
theorem EG {l : List aD} {f : aD → Option Bool} {g : aD → Bool} (hl : l.length ≤ 1099511627776) (hf : ∀ x ∈ l, f x = some (g x)) : cT l f = some (l.any g) := by
  unfold cT fK fF
  obtain ⟨x, e, hx⟩ := AH hl hf l 0 rfl (Nat.zero_le _)
  have e' : lp (fun s => fG f l (l.length : Nat) s) 0 = some x := e
  rw [e']
  rcases hx with ⟨rfl, h⟩ | ⟨i, rfl, _, _, h, _⟩
  · simp [dQ, h]
  · simp [h]

def unE (e : aD) : Bool := ((!pX e.Row) || (decide ((1048576 : Int) < e.Net))) || (decide (e.Net < (-1048576 : Int)))

def PI (e : aD) : Bool := (decide (e.At < (-1 : Int))) || (decide ((1125899906842624 : Int) < e.At))

def TC (x y : aD) : Int := if lB x.Row y.Row ≠ 0 then lB x.Row y.Row else pW x.At y.At

abbrev okE (x : aD) : Prop := pX x.Row = true

abbrev leE (x y : aD) : Prop := lB x.Row y.Row < 0 ∨ (x.Row = y.Row ∧ x.At ≤ y.At)

theorem or_eq (a b : Int) : tH [a, b] = some (if a ≠ 0 then a else b) := by
  unfold tH vW
  have w1 : IntKind.i64.wrap (1 : Int) = 1 := by rw [eE] <;> omega
  have w2 : IntKind.i64.wrap (2 : Int) = 2 := by rw [eE] <;> omega
  have b0 : (fun s => gM 0 [a, b] (([a, b] : List Int).length : Nat) s) (0 : Int) = some (if a ≠ 0 then .inr (.inr a) else .inl 1) := by
    show gM _ _ _ _ = _
    unfold gM
    rw [bE ⟨by omega, by simp⟩]
    by_cases h : a = 0 <;> simp [h, w1]
  have b1 : (fun s => gM 0 [a, b] (([a, b] : List Int).length : Nat) s) (1 : Int) = some (if b ≠ 0 then .inr (.inr b) else .inl 2) := by
    show gM _ _ _ _ = _
    unfold gM
    rw [bE ⟨by omega, by simp⟩]
    by_cases h : b = 0 <;> simp [h, w2]
  have b2 : (fun s => gM 0 [a, b] (([a, b] : List Int).length : Nat) s) (2 : Int) = some (.inr (.inl ())) := by
    show gM _ _ _ _ = _
    unfold gM
    simp
  by_cases h : a = 0
  · rw [if_neg (by simp [h])] at b0
    rw [dO b0]
    by_cases h2 : b = 0
    · rw [if_neg (by simp [h2])] at b1
      rw [dO b1, cM b2]
      simp [sG, h, h2]
    · rw [if_pos h2] at b1
      rw [cM b1]
      simp [h]
  · rw [if_pos h] at b0
    rw [cM b0]
    simp [h]

theorem ZQ {x y : aD} (hx : okE x) (hy : okE y) : mU x y = some (TC x y) := by
  unfold mU TC
  rw [LD, hx, hy]
  simp only [Bool.and_self, if_true, Option.bind_some, KT, or_eq]

theorem YZ (x y : aD) : TC x y < 0 ↔ ¬ leE y x := by
  unfold TC leE
  have ha := nI.anti x.Row y.Row
  have hb := nI.anti y.Row x.Row
  have he := nI.eq x.Row y.Row
  by_cases h : lB x.Row y.Row = 0
  · rw [if_neg (by simp [h])]
    have e := he.1 h
    have : ¬ lB y.Row x.Row < 0 := by rw [e]; exact xP
    unfold pW
    constructor
    · intro h1 h2
      rcases h2 with h2 | ⟨_, h2⟩
      · exact this h2
      · split at h1
        · omega
        · split at h1 <;> omega
    · intro h1
      have : ¬ y.At ≤ x.At := fun h2 => h1 (.inr ⟨e.symm, h2⟩)
      rw [if_pos (by omega)]; omega
  · rw [if_pos h]
    have hne : y.Row ≠ x.Row := fun e => h (he.2 e.symm)
    constructor
    · intro h1 h2
      rcases h2 with h2 | ⟨h2, _⟩
      · have := hb.1 h2; omega
      · exact hne h2
    · intro h1
      have : ¬ lB y.Row x.Row < 0 := fun h2 => h1 (.inl h2)
      rw [hb] at this
      omega

theorem WB (x y : aD) : leE x y ∨ leE y x := by
  unfold leE
  by_cases h : lB x.Row y.Row = 0
  · have e := (nI.eq _ _).1 h
    rcases Int.le_total x.At y.At with h1 | h1
    · exact .inl (.inr ⟨e, h1⟩)
    · exact .inr (.inr ⟨e.symm, h1⟩)
  · by_cases h1 : lB x.Row y.Row < 0
    · exact .inl (.inl h1)
    · exact .inr (.inl ((nI.anti _ _).2 (by omega)))

theorem WN {x y z : aD} (h1 : leE x y) (h2 : leE y z) : leE x z := by
  rcases h1 with h1 | ⟨e1, h1⟩ <;> rcases h2 with h2 | ⟨e2, h2⟩
  · exact .inl (nI.trans _ _ _ h1 h2)
  · exact .inl (e2 ▸ h1)
  · exact .inl (e1.symm ▸ h2)
  · exact .inr ⟨e1.trans e2, by omega⟩

theorem aAW : Cmp okE leE (fun y0 y1 => mU y0 y1) where
  ans x y hx hy := ⟨_, ZQ hx hy, YZ x y⟩
  trans x y z _ _ _ h1 h2 := WN h1 h2
  total x y _ _ := WB x y

theorem aAT {l : List aD} (hl : l.length ≤ 1099511627776) (ho : ∀ e ∈ l, okE e) : ∃ r, r.Perm l ∧ Srt leE r ∧ cY l (fun y0 y1 => mU y0 y1) = some r := by
  obtain ⟨r, r1, r2, r3⟩ := LN aAW (d := l) ho hl
  refine ⟨r, r1, r2, ?_⟩
  unfold cY
  rw [NF, r3]; rfl

theorem PN : ∀ {l : List aD} {r : List aI} {f : List aB}, Srt leE l → (∀ e ∈ l, e.Row = r ∨ lB r e.Row < 0) → HO (gA r f l) ∧ ∀ g ∈ gA r f l, g.1 = r ∨ lB r g.1 < 0
  | [], r, f, _, _ => by simp [gA]
  | e :: l, r, f, hs, hr => by
    have hs' := List.pairwise_cons.1 hs
    rw [RO]
    by_cases h : e.Row = r
    · rw [if_pos h]
      exact PN hs'.2 (fun x hx => hr x (by simp [hx]))
    · rw [if_neg h]
      have hlt : lB r e.Row < 0 := (hr e (by simp)).resolve_left h
      obtain ⟨h1, h2⟩ := PN (r := e.Row) (f := [jE e]) hs'.2 (fun x hx => by
        rcases hs'.1 x hx with h | ⟨h, _⟩
        · exact .inr h
        · exact .inl h.symm)
      have key : ∀ g ∈ gA e.Row [jE e] l, lB r g.1 < 0 := fun g hg => by
        rcases h2 g hg with h | h
        · rw [h]; exact hlt
        · exact nI.trans _ _ _ hlt h
      refine ⟨List.pairwise_cons.2 ⟨key, h1⟩, ?_⟩
      intro g hg
      rcases List.mem_cons.1 hg with rfl | hg
      · exact .inl rfl
      · exact .inr (key g hg)

theorem wW {l : List aD} (hs : Srt leE l) : HO (groups l) := by
  cases l with
  | nil => exact List.Pairwise.nil
  | cons e l =>
    have hs' := List.pairwise_cons.1 hs
    exact (PN hs'.2 (fun x hx => by
      rcases hs'.1 x hx with h | ⟨h, _⟩
      · exact .inr h
      · exact .inl h.symm)).1

abbrev EK (rs : List (List aI)) : Prop := rs.Pairwise fun a b => lB a b < 0

def AG (r : List aI) : List (List aI) → List (List aI)
  | [] => [r]
  | x :: xs => if lB x r < 0 then x :: AG r xs else if x = r then x :: xs else r :: x :: xs

def rowsOf (l : List aD) : List (List aI) := l.foldl (fun rs e => AG e.Row rs) []

theorem HH {r x : List aI} : ∀ {rs : List (List aI)}, x ∈ AG r rs ↔ x = r ∨ x ∈ rs
  | [] => by simp [AG]
  | y :: ys => by
    unfold AG
    split
    · simp only [List.mem_cons, HH (rs := ys)]
      constructor
      · rintro (h | h | h)
        · exact .inr (.inl h)
        · exact .inl h
        · exact .inr (.inr h)
      · rintro (h | h | h)
        · exact .inr (.inl h)
        · exact .inl h
        · exact .inr (.inr h)
    · split
      · rename_i h; subst h; simp
      · simp

theorem OF {r : List aI} : ∀ {rs : List (List aI)}, EK rs → EK (AG r rs)
  | [], _ => by simp [AG]
  | y :: ys, hs => by
    have hs' := List.pairwise_cons.1 hs
    unfold AG
    split
    · rename_i h
      refine List.pairwise_cons.2 ⟨fun z hz => ?_, OF hs'.2⟩
      rcases HH.1 hz with rfl | hz
      · exact h
      · exact hs'.1 z hz
    · rename_i h
      split
      · exact hs
      · rename_i hne
        have hlt : lB r y < 0 := by
          have h0 : lB y r ≠ 0 := fun e => hne ((nI.eq _ _).1 e)
          exact (nI.anti _ _).2 (by omega)
        refine List.pairwise_cons.2 ⟨fun z hz => ?_, hs⟩
        rcases List.mem_cons.1 hz with rfl | hz
        · exact hlt
        · exact nI.trans _ _ _ hlt (hs'.1 z hz)

theorem EP : ∀ (l : List aD) (rs : List (List aI)), EK rs → EK (l.foldl (fun rs e => AG e.Row rs) rs) ∧ ∀ x, x ∈ l.foldl (fun rs e => AG e.Row rs) rs ↔ x ∈ rs ∨ ∃ e ∈ l, e.Row = x
  | [], rs, hs => ⟨hs, by simp⟩
  | e :: l, rs, hs => by
    obtain ⟨h1, h2⟩ := EP l (AG e.Row rs) (OF hs)
    refine ⟨h1, fun x => ?_⟩
    simp only [List.foldl_cons]
    rw [h2 x, HH]
    simp only [List.mem_cons, exists_eq_or_imp]
    constructor
    · rintro ((h | h) | h)
      · exact .inr (.inl h.symm)
      · exact .inl h
      · exact .inr (.inr h)
    · rintro (h | h | h)
      · exact .inl (.inr h)
      · exact .inl (.inl h.symm)
      · exact .inr h

theorem TE (l : List aD) : EK (rowsOf l) := (EP l [] List.Pairwise.nil).1

theorem IU {l : List aD} {x : List aI} : x ∈ rowsOf l ↔ ∃ e ∈ l, e.Row = x := by
  have := (EP l [] List.Pairwise.nil).2 x
  simpa [rowsOf] using this

theorem NH : ∀ {a b : List (List aI)}, EK a → EK b → (∀ x, x ∈ a ↔ x ∈ b) → a = b
  | [], [], _, _, _ => rfl
  | [], y :: ys, _, _, h => absurd ((h y).2 (by simp)) (by simp)
  | x :: xs, [], _, _, h => absurd ((h x).1 (by simp)) (by simp)
  | x :: xs, y :: ys, ha, hb, h => by
    have ha' := List.pairwise_cons.1 ha
    have hb' := List.pairwise_cons.1 hb
    have e : x = y := by
      rcases List.mem_cons.1 ((h x).1 (by simp)) with h1 | h1
      · exact h1
      · rcases List.mem_cons.1 ((h y).2 (by simp)) with h2 | h2
        · exact h2.symm
        · exact absurd (nI.trans _ _ _ (hb'.1 x h1) (ha'.1 y h2)) xP
    subst e
    rw [NH ha'.2 hb'.2 fun z => ?_]
    constructor
    · intro hz
      rcases List.mem_cons.1 ((h z).1 (by simp [hz])) with h1 | h1
      · subst h1; exact absurd (ha'.1 z hz) xP
      · exact h1
    · intro hz
      rcases List.mem_cons.1 ((h z).2 (by simp [hz])) with h1 | h1
      · subst h1; exact absurd (hb'.1 z hz) xP
      · exact h1

def QB (l : List aD) : List (List aI × List aB) := (rowsOf l).map fun r => (r, kD l r)

theorem NC {a b : List aD} (h : a.Perm b) (r : List aI) : (kD a r).Perm (kD b r) := (h.filter _).map _

theorem QN {l l' : List aD} (hp : l'.Perm l) (hs : Srt leE l') : (groups l').map (·.1) = rowsOf l := by
  refine NH ?_ (TE l) fun x => ?_
  · rw [EK, List.pairwise_map]; exact wW hs
  · rw [IU]
    constructor
    · intro h
      obtain ⟨g, hg, rfl⟩ := List.mem_map.1 h
      obtain ⟨_, e, he, h1⟩ := IT hg
      exact ⟨e, hp.mem_iff.1 he, h1.symm⟩
    · rintro ⟨e, he, rfl⟩
      have he' : e ∈ flat (groups l') := by rw [GF]; exact hp.mem_iff.2 he
      obtain ⟨g, hg, h1⟩ := List.mem_flatMap.1 he'
      obtain ⟨j, _, rfl⟩ := List.mem_map.1 h1
      exact List.mem_map.2 ⟨g, hg, rfl⟩

theorem YH {l : List aB} (ht : ∀ j ∈ l, -2 < j.At) : Up (-2) (DH l) :=
  CP (by rw [List.map_map]; simpa [Function.comp_def] using EM ht)

theorem VC {l : List aB} (ht : ∀ j ∈ l, -2 < j.At) {t : Int} (h1 : -2 < t) (h2 : t < 1125899906842624) : val (DH l) t = val l t := by
  have h0 : val l (-2) = 0 := yI fun j hj => ht j hj
  have := EV (F := val l) (EM ht) (fun s t' _ hst hlt hn => EJ hst fun j hj hc => hn j.At (HD.2 (Or.inr ⟨j, List.mem_filter.2 ⟨hj, by simp; omega⟩, rfl⟩)) hc) t (by omega) h2
  rw [h0] at this
  unfold DH
  rw [this]; omega

theorem SY {f g : List aB} (h : f.Perm g) (hf : f.any EF = false) : DH f = DH g := by
  have hg : ∀ j ∈ g, -2 < j.At := fun j hj => (DL hf j (h.mem_iff.2 hj)).1
  exact ON (fun j hj => (DL hf j hj).1) (YH hg) fun t h1 h2 => by rw [VC hg h1 h2, NR h]

theorem GS {f g : List aB} (h : f.Perm g) (p : aB → Bool) : f.any p = g.any p := by
  cases h1 : g.any p
  · rw [List.any_eq_false] at h1 ⊢
    exact fun x hx => h1 x (h.mem_iff.1 hx)
  · obtain ⟨x, hx, hp⟩ := List.any_eq_true.1 h1
    exact List.any_eq_true.2 ⟨x, h.mem_iff.2 hx, hp⟩

theorem TO {f g : List aB} (h : f.Perm g) : rJ f = rJ g := by
  unfold rJ
  rw [GS h AI, GS h EF]
  split
  · rfl
  · split
    · rfl
    · rename_i h2
      rw [SY h (by rw [GS h EF]; simpa using h2)]

theorem WL (l : List aB) : (rJ l).1.length ≤ 1024 := by
  unfold rJ
  split
  · simp
  · split
    · simp
    · exact XE _

theorem HP {by1 : List aB → List aB × Int} : ∀ {gs hs : List (List aI × List aB)} {out : List aD}, gs.map (fun g => (g.1, by1 g.2)) = hs.map (fun g => (g.1, by1 g.2)) → tR by1 gs out = tR by1 hs out
  | [], [], _, _ => rfl
  | [], _ :: _, _, h => by simp at h
  | _ :: _, [], _, h => by simp at h
  | g :: gs, k :: hs, out, h => by
    simp only [List.map_cons, List.cons.injEq, Prod.mk.injEq] at h
    obtain ⟨⟨h1, h2⟩, h3⟩ := h
    unfold tR
    rw [h1, h2]
    split
    · rfl
    · split
      · rfl
      · exact HP h3

theorem QW {l l' : List aD} (hp : l'.Perm l) (hs : Srt leE l') : (groups l').map (fun g => (g.1, rJ g.2)) = (QB l).map (fun g => (g.1, rJ g.2)) := by
  have h1 : (groups l').map (fun g => (g.1, rJ g.2)) = ((groups l').map (·.1)).map (fun r => (r, rJ (kD l r))) := by
    rw [List.map_map]
    apply List.map_congr_left
    intro g hg
    have hj : g.2 = kD l' g.1 := by rw [← wX (wW hs), CN (wW hs) hg]
    simp only [Function.comp]
    rw [hj, TO (NC hp g.1)]
  rw [h1, QN hp hs, QB, List.map_map]
  rfl

def vH (l : List aD) : List aD × Int := if l.any unE then ([], 2) else if l.any PI then ([], 13) else tR rJ (QB l) []

theorem ZO {l : List aD} (h : l.any unE = false) : ∀ e ∈ l, pX e.Row = true ∧ e.Net ≤ 1048576 ∧ -1048576 ≤ e.Net := by
  intro e he
  have := List.any_eq_false.1 h e he
  simp only [unE, Bool.or_eq_true, not_or, Bool.not_eq_true', decide_eq_true_eq, Bool.not_eq_false, Bool.not_eq_true] at this
  exact ⟨by simpa using this.1.1, by omega, by omega⟩

theorem XA {l : List aD} (hl : okL l) (hn : l.length ≤ 1099511627776) : vC l = some (vH l) := by
  unfold vC vH
  rw [EG (g := unE) hn (fun x _ => by simp [rM, BX, unE])]
  simp only [Option.bind_some]
  cases h1 : l.any unE
  · rw [EG (f := fun y0 => rQ y0) (g := PI) hn (fun x _ => rfl)]
    simp only [cond_false, Option.bind_some, Bool.false_eq_true, if_false]
    cases h2 : l.any PI
    · simp only [cond_false, Bool.false_eq_true, if_false]
      have hc : eW l = some l := by unfold eW; exact bE ⟨by omega, by omega⟩
      obtain ⟨r, r1, r2, r3⟩ := aAT hn (fun e he => (ZO h1 e he).1)
      rw [hc]
      simp only [Option.bind_some]
      rw [r3]
      simp only [Option.bind_some]
      have hr : okL r := ⟨by rw [r1.length_eq]; exact hl.1, fun e he => hl.2 e (r1.mem_iff.1 he)⟩
      rw [WT hr (by1 := rJ) (fun g hg => ⟨by
        unfold rL
        have hgl : g.2.length ≤ 1099511627776 := by
          have h3 : g.2 = kD r g.1 := by rw [← wX (wW r2), CN (wW r2) hg]
          rw [h3, kD, List.length_map]
          exact Nat.le_trans (List.length_filter_le _ _) (by rw [r1.length_eq]; exact hn)
        rw [norm_eq hgl]; rfl, WL _, LB hr hg⟩)]
      simp only [Option.bind_some]
      rw [HP (QW r1 r2)]
    · simp
  · simp

theorem XX {l : List aD} (h : (vH l).2 = 0) : l.any unE = false ∧ l.any PI = false ∧ (∀ g ∈ QB l, (rJ g.2).2 = 0) ∧ (vH l).1 = flat (TP rJ (QB l)) ∧ (vH l).1.length ≤ 4096 := by
  unfold vH at h ⊢
  cases h1 : l.any unE
  · rw [h1] at h
    simp only [Bool.false_eq_true, if_false] at h ⊢
    cases h2 : l.any PI
    · rw [h2] at h
      simp only [Bool.false_eq_true, if_false] at h ⊢
      obtain ⟨a, b, c⟩ := SL (by simp) h
      exact ⟨trivial, trivial, a, by simpa using b, c⟩
    · rw [h2] at h; simp at h
  · rw [h1] at h; simp at h

theorem UI {l : List aD} (h : (vH l).2 ≠ 0) : (vH l).1 = [] := by
  unfold vH at h ⊢
  split
  · rfl
  · rename_i h1
    rw [if_neg h1] at h
    split
    · rfl
    · rename_i h2
      rw [if_neg h2] at h
      exact PA h

end Go.Abs
namespace Go.Abs
open Go
def UD (s : aQ) : Bool := (decide (0 ≤ s.From) && decide (s.From ≤ 1125899906842624)) && (decide (0 ≤ s.To) && decide (s.To ≤ 1125899906842624)) && decide (s.From < s.To)

theorem SQ (s : aQ) : wO s = some (UD s) := by
  unfold wO vF UD
  simp only [Option.bind_some]
  cases h : (decide (0 ≤ s.From) && decide (s.From ≤ 1125899906842624)) <;> simp [dF]

end Go.Abs
namespace Go.Abs
open Go
theorem JV : okL [] := ⟨by simp, by simp⟩

theorem XR {gs : List (List aI × List aB)} (h : ∀ g ∈ gs, g.1.length ≤ 4398046510976) (hl : (flat gs).length ≤ 4096) : okL (flat gs) := by
  refine ⟨by omega, fun e he => ?_⟩
  obtain ⟨g, hg, h1⟩ := List.mem_flatMap.1 he
  obtain ⟨j, _, rfl⟩ := List.mem_map.1 h1
  exact h g hg

theorem WK {l : List aD} (hl : okL l) : okL (vH l).1 := by
  by_cases h : (vH l).2 = 0
  · obtain ⟨_, _, _, h4, h5⟩ := XX h
    rw [h4] at h5 ⊢
    refine XR (fun g hg => ?_) h5
    obtain ⟨q, hq, rfl⟩ := List.mem_map.1 hg
    obtain ⟨r, hr, rfl⟩ := List.mem_map.1 hq
    obtain ⟨e, he, rfl⟩ := IU.1 hr
    exact hl.2 e he
  · rw [UI h]; exact JV

end Go.Abs
namespace Go.Abs
open Go
theorem GC {σ : Type} {y : σ → List aI → List aB → Option (σ × Bool)} (c : List aD) : ∀ (gs : List (List aI × List aB)) (s s' : σ), itG y gs s = some s' →
    ∃ x, itG (fun st t10 t11 => rnd (fun (s : σ) => jH y c s t10 t11) st) gs (.inl s) = some x ∧ Sum.elim id id x = s'
  | [], s, s', h => by simp only [itG, Option.some.injEq] at h; exact ⟨_, rfl, h⟩
  | g :: gs, s, s', h => by
    simp only [itG] at h
    obtain ⟨z, hz, h⟩ := aY h
    have hl : jH y c s g.1 g.2 = some (if z.2 then .inl z.1 else .inr z.1) := by
      unfold jH
      rw [hz]
      obtain ⟨z1, z2⟩ := z
      cases z2 <;> rfl
    cases h2 : z.2
    · rw [h2] at h hl
      simp only [Bool.false_eq_true, if_false, Option.some.injEq] at h hl
      refine ⟨.inr z.1, ?_, h⟩
      simp [itG, rnd, hl]
    · rw [h2] at h hl
      simp only [if_true] at h hl
      obtain ⟨x, h3, h4⟩ := GC c gs z.1 s' h
      refine ⟨x, ?_, h4⟩
      simp only [itG, rnd, hl, Option.bind_some, Sum.isLeft_inl, if_true]
      exact h3

theorem JK {σ : Type} {y : σ → List aI → List aB → Option (σ × Bool)} {l : List aD} (hl : okL l) {s s' : σ} (h : itG y (if BL l then groups l else []) s = some s') : mK y l s = some s' := by
  unfold mK
  rw [RQ hl]
  cases hm : BL l
  · rw [hm] at h
    simp only [Bool.false_eq_true, if_false, itG] at h
    simpa using h
  · rw [hm] at h
    simp only [if_true] at h
    simp only [Option.bind_some, Bool.not_true, cond_false, oK, pO]
    obtain ⟨x, h1, h2⟩ := GC l (groups l) s s' h
    rw [JN hl h1]
    cases x <;> simpa using h2

end Go.Abs
namespace Go.Abs
open Go
theorem SN {c : Int} : ∀ {l : List Int} {m : Int}, c ≤ l.foldl mn m ↔ c ≤ m ∧ ∀ x ∈ l, c ≤ x
  | [], m => by simp
  | a :: l, m => by
    rw [List.foldl_cons, SN]
    unfold mn
    constructor
    · rintro ⟨h1, h2⟩
      have h3 : c ≤ m ∧ c ≤ a := by split at h1 <;> omega
      refine ⟨h3.1, fun x hx => ?_⟩
      rcases List.mem_cons.1 hx with rfl | hx
      · exact h3.2
      · exact h2 x hx
    · rintro ⟨h1, h2⟩
      have := h2 a (by simp)
      exact ⟨by split <;> omega, fun x hx => h2 x (by simp [hx])⟩

theorem LU {t : Int} : ∀ {f : List aB} {l v : Int}, xB l f → v + val f t = v ∨ v + val f t ∈ parts v f
  | [], l, v, _ => .inl (by simp [val])
  | j :: r, l, v, h => by
    unfold parts
    rw [dB]
    by_cases e : j.At ≤ t
    · rw [if_pos e]
      right
      rcases LU (t := t) (v := v + j.Net) h.2 with h1 | h1
      · rw [show v + (j.Net + val r t) = v + j.Net by omega]; simp
      · rw [show v + (j.Net + val r t) = v + j.Net + val r t by omega]; exact List.mem_cons_of_mem _ h1
    · left
      rw [if_neg e, h.2.zB (by omega)]; omega

theorem AW {f : List aB} (hf : iX f = true) : 0 ≤ tU f ↔ ∀ t, 0 ≤ val f t := by
  have hr := (pE.1 hf).2
  unfold tU
  rw [SN]
  constructor
  · rintro ⟨_, h2⟩ t
    rcases LU (t := t) (v := 0) hr with h | h
    · omega
    · rw [parts_eq hr] at h
      obtain ⟨j, hj, h⟩ := List.mem_map.1 h
      have := h2 _ (List.mem_map.2 ⟨j, hj, rfl⟩)
      omega
  · intro h
    refine ⟨h _, fun x hx => ?_⟩
    obtain ⟨j, _, rfl⟩ := List.mem_map.1 hx
    exact h _

theorem SW {l : List aD} : AB l = true ↔ BL l = true ∧ ∀ r t, 0 ≤ val (kD l r) t := by
  constructor
  · intro h
    unfold AB at h
    rw [Bool.and_eq_true, yQ] at h
    obtain ⟨h1, h2, h3, _⟩ := h
    have hm : BL l = true := by
      unfold BL
      rw [Bool.and_eq_true]
      exact ⟨h1, yQ.2 ⟨fun g hg => ⟨(h2 g hg).1, by have := (h2 g hg).2; unfold KN at this; rw [Bool.and_eq_true] at this; exact this.1⟩, h3, fun q hq => by cases hq⟩⟩
    refine ⟨hm, fun r => ?_⟩
    rw [← wX h3]
    rcases SZ (groups l) r with ⟨e, _⟩ | ⟨g, hg, _, e⟩
    · rw [e]; intro t; simp [val]
    · rw [e]
      have := (h2 g hg).2
      unfold KN at this
      rw [Bool.and_eq_true, decide_eq_true_eq] at this
      exact (AW this.1).1 this.2
  · rintro ⟨hm, h⟩
    obtain ⟨h1, h2, h3⟩ := JZ hm
    unfold AB
    rw [Bool.and_eq_true]
    refine ⟨by simpa using h1, yQ.2 ⟨fun g hg => ⟨(h2 g hg).1, ?_⟩, h3, fun q hq => by cases hq⟩⟩
    unfold KN
    rw [Bool.and_eq_true, decide_eq_true_eq]
    refine ⟨(h2 g hg).2, (AW (h2 g hg).2).2 ?_⟩
    have : g.2 = kD l g.1 := by rw [← wX h3, CN h3 hg]
    rw [this]; exact h g.1

end Go.Abs
namespace Go.Abs
open Go
def mZ (f : List aB) : List Int := f.flatMap fun j => List.replicate j.Net.toNat j.At

def ends (f : List aB) : List Int := f.flatMap fun j => List.replicate (-j.Net).toNat j.At

def kT (f : List aB) : Int := (f.map fun j => if 0 < j.Net then j.Net else 0).sum

def pairs (d : Int) : List Int → List Int → List aQ
  | [], _ => []
  | b :: bs, [] => ⟨b, d⟩ :: pairs d bs []
  | b :: bs, e :: es => ⟨b, e⟩ :: pairs d bs es

theorem sL (j : aB) (f : List aB) : mZ (j :: f) = List.replicate j.Net.toNat j.At ++ mZ f := rfl

theorem BB (j : aB) (f : List aB) : ends (j :: f) = List.replicate (-j.Net).toNat j.At ++ ends f := rfl

theorem uF (j : aB) (f : List aB) : kT (j :: f) = (if 0 < j.Net then j.Net else 0) + kT f := by simp [kT]

theorem tP : ∀ f : List aB, 0 ≤ kT f
  | [] => by simp [kT]
  | j :: f => by rw [uF]; have := tP f; split <;> omega

theorem xF : ∀ f : List aB, kT f = ((mZ f).length : Nat)
  | [] => rfl
  | j :: f => by
    rw [uF, sL, List.length_append, List.length_replicate, xF f]
    split <;> omega

theorem tE (d : Int) : ∀ (B E : List Int), (pairs d B E).length = B.length
  | [], _ => rfl
  | _ :: bs, [] => by simp [pairs, tE d bs []]
  | _ :: bs, _ :: es => by simp [pairs, tE d bs es]

theorem CJ (d t : Int) : ∀ (B E : List Int), E.length ≤ B.length → pairs d (B ++ [t]) E = pairs d B E ++ [⟨t, d⟩]
  | [], [], _ => rfl
  | [], _ :: _, h => by simp at h
  | b :: bs, [], _ => by simp only [List.cons_append, pairs, CJ d t bs [] (by simp)]
  | b :: bs, e :: es, h => by simp only [List.cons_append, pairs, CJ d t bs es (by simpa using h)]

theorem LW (d t : Int) : ∀ (B E : List Int), E.length < B.length → (pairs d B E).set E.length ⟨((pairs d B E).getD E.length default).From, t⟩ = pairs d B (E ++ [t])
  | [], _, h => by simp at h
  | b :: bs, [], _ => by simp [pairs]
  | b :: bs, e :: es, h => by
    have := LW d t bs es (by simpa using h)
    simp only [pairs, List.length_cons, List.set_cons_succ, List.cons_append, List.getD_cons_succ]
    rw [this]

theorem HX (d d' : Int) : ∀ (B E : List Int), B.length ≤ E.length → pairs d B E = pairs d' B E
  | [], _, _ => rfl
  | _ :: _, [], h => by simp at h
  | b :: bs, e :: es, h => by simp only [pairs, HX d d' bs es (by simpa using h)]

theorem zJ (d d' : Int) : ∀ (B E : List Int), pairs d' B E = pairs d B (E ++ List.replicate (B.length - E.length) d')
  | [], E => by simp [pairs]
  | b :: bs, [] => by
    have := zJ d d' bs []
    simp only [List.nil_append, List.length_nil, Nat.sub_zero, List.length_cons, List.replicate_succ, pairs] at this ⊢
    rw [this]
  | b :: bs, e :: es => by
    have := zJ d d' bs es
    simp only [List.cons_append, List.length_cons, Nat.add_sub_add_right, pairs]
    rw [this]

def FN (v : Int) : List aB → Prop
  | [] => True
  | j :: r => 0 ≤ v + j.Net ∧ FN (v + j.Net) r

theorem GM : ∀ {f : List aB} {v : Int}, (∀ x ∈ parts v f, 0 ≤ x) → FN v f
  | [], _, _ => trivial
  | j :: r, v, h => ⟨h _ (by simp [parts]), GM fun x hx => h x (by simp [parts, hx])⟩

theorem LF {f : List aB} (hf : iX f = true) (h : ∀ t, 0 ≤ val f t) : FN 0 f := by
  refine GM fun x hx => ?_
  rw [parts_eq (pE.1 hf).2] at hx
  obtain ⟨j, _, rfl⟩ := List.mem_map.1 hx
  have := h j.At
  omega

theorem ZJ {f : List aB} (hf : ∀ j ∈ f, j.Net ≤ 1048576 ∧ -1048576 ≤ j.Net) (hl : f.length ≤ 1099511627776) : oF f = some (kT f) := by
  unfold oF wQ
  rw [qV (l := f) (body := fun s : Int × Int => nM f (f.length : Nat) s.1 s.2) (fun v i => (v, i)) (fun v r => v + kT r)
    (fun v r => (∀ j ∈ r, j.Net ≤ 1048576 ∧ -1048576 ≤ j.Net) ∧ 0 ≤ v ∧ v ≤ 1048576 * (1099511627776 - r.length) ∧ r.length ≤ 1099511627776) 0 ?_ ?_ ⟨hf, by omega, by omega, hl⟩]
  · simp [tQ]
  · rintro i a r v ha ⟨h1, h2, h3, h4⟩
    have hlt := (List.getElem?_eq_some_iff.1 ha).1
    obtain ⟨d1, d2, d3, d4⟩ := idx ha (by omega)
    have hj := h1 a (List.mem_cons_self ..)
    simp only [List.length_cons] at h3 h4
    have hif : (if (0 : Int) > a.Net then 0 else a.Net) = (if 0 < a.Net then a.Net else 0) := by split <;> split <;> omega
    have hb : 0 ≤ (if 0 < a.Net then a.Net else 0) ∧ (if 0 < a.Net then a.Net else 0) ≤ 1048576 := by split <;> omega
    have hw : IntKind.i64.wrap (v + (if 0 < a.Net then a.Net else 0)) = v + (if 0 < a.Net then a.Net else 0) := eE (by omega) (by omega)
    left
    refine ⟨v + (if 0 < a.Net then a.Net else 0), ?_, ⟨fun j hj => h1 j (List.mem_cons_of_mem _ hj), by omega, by omega, by omega⟩, by rw [uF]; omega⟩
    show nM _ _ _ _ = _
    simp only [nM, d1, cond_true, bE d2, d3, d4, hif, hw]
  · rintro v _
    show nM _ _ _ _ = _
    simp only [nM, gN, cond_false]
    simp [kT]

theorem KF {f : List aB} (hf : iX f = true) : oF f = some (kT f) := ZJ (wB hf) (by have := (pE.1 hf).1; omega)

theorem QH {f : List aB} (hf : ∀ j ∈ f, j.Net ≤ 1048576) : kT f ≤ 1048576 * f.length := by
  induction f with
  | nil => simp [kT]
  | cons j f ih =>
    rw [uF, List.length_cons]
    have := ih fun k hk => hf k (by simp [hk])
    have := hf j (by simp)
    split <;> omega

theorem WX {B E : List Int} {t : Int} (h : E.length < B.length) (hB : B.length ≤ 1000000) : lP t (pairs 0 B E) (E.length : Nat) = some (pairs 0 B (E ++ [t]), ((E.length + 1 : Nat) : Int)) := by
  unfold lP
  rw [bE ⟨by omega, by rw [tE]; omega⟩, Int.toNat_natCast, LW 0 t B E h, eE (by omega) (by omega)]
  rfl

theorem OT {f : List aB} {i : Int} {j : aB} {E : List Int} (t13 : Int) (hN : j.Net ≤ 4294967296) : ∀ (n : Nat) (k : Nat) (B : List Int), E.length ≤ B.length → j.Net.toNat = k + n → B.length + n ≤ 1000000 →
    lp (fun s : List aQ × Int × aB × Int => lF f t13 i j.Net s.1 s.2.1 s.2.2.1 s.2.2.2) (pairs 0 B E, ((E.length : Nat) : Int), j, (k : Int)) = some (pairs 0 (B ++ List.replicate n j.At) E, ((E.length : Nat) : Int), j)
  | 0, k, B, _, hk, _ => by
    refine cM ?_
    show lF _ _ _ _ _ _ _ _ = _
    have : decide ((k : Int) < j.Net) = false := by simp; omega
    simp only [lF, this, cond_false, List.replicate_zero, List.append_nil]
  | n + 1, k, B, hE, hk, hB => by
    have h1 : decide ((k : Int) < j.Net) = true := by simp; omega
    have hb : (fun s : List aQ × Int × aB × Int => lF f t13 i j.Net s.1 s.2.1 s.2.2.1 s.2.2.2) (pairs 0 B E, ((E.length : Nat) : Int), j, (k : Int)) = some (.inl (pairs 0 (B ++ [j.At]) E, ((E.length : Nat) : Int), j, ((k + 1 : Nat) : Int))) := by
      show lF _ _ _ _ _ _ _ _ = _
      simp only [lF, h1, cond_true]
      rw [bE (by rw [tE]; simp only [List.length_cons, List.length_nil]; omega), CJ 0 j.At B E hE, eE (by omega) (by omega)]
      rfl
    rw [dO hb, OT t13 hN n (k + 1) (B ++ [j.At]) (by simp; omega) (by omega) (by simp; omega), List.append_assoc, List.replicate_succ]
    rfl

theorem WQ {f : List aB} {i : Int} {j : aB} {B : List Int} (t13 : Int) (hB : B.length ≤ 1000000) (hN : -4294967296 ≤ j.Net) : ∀ (n : Nat) (k : Nat) (E : List Int), (-j.Net).toNat = k + n → E.length + n ≤ B.length →
    lp (fun s : List aQ × Int × aB × Int => lH f t13 i (-j.Net) s.1 s.2.1 s.2.2.1 s.2.2.2) (pairs 0 B E, ((E.length : Nat) : Int), j, (k : Int)) = some (pairs 0 B (E ++ List.replicate n j.At), ((E.length + n : Nat) : Int))
  | 0, k, E, hk, _ => by
    refine cM ?_
    show lH _ _ _ _ _ _ _ _ = _
    have : decide ((k : Int) < -j.Net) = false := by simp; omega
    simp only [lH, this, cond_false, List.replicate_zero, List.append_nil, Nat.add_zero]
  | n + 1, k, E, hk, hE => by
    have h1 : decide ((k : Int) < -j.Net) = true := by simp; omega
    have hb : (fun s : List aQ × Int × aB × Int => lH f t13 i (-j.Net) s.1 s.2.1 s.2.2.1 s.2.2.2) (pairs 0 B E, ((E.length : Nat) : Int), j, (k : Int)) = some (.inl (pairs 0 B (E ++ [j.At]), (((E ++ [j.At]).length : Nat) : Int), j, ((k + 1 : Nat) : Int))) := by
      show lH _ _ _ _ _ _ _ _ = _
      simp only [lH, h1, cond_true, WX (show E.length < B.length by omega) hB, Option.bind_some]
      rw [eE (by omega) (by omega)]
      simp
    rw [dO hb, WQ t13 hB hN n (k + 1) (E ++ [j.At]) (by omega) (by simp; omega), List.append_assoc, List.replicate_succ]
    have : (E ++ [j.At]).length + n = E.length + (n + 1) := by simp; omega
    rw [this]
    rfl

theorem SJ {B : List Int} (hB : B.length ≤ 1000000) : ∀ (n : Nat) (E : List Int), E.length + n = B.length →
    lp (fun s : List aQ × Int => lG s.1 s.2) (pairs 0 B E, ((E.length : Nat) : Int)) = some (pairs 1125899906842624 B E)
  | 0, E, h => by
    refine cM ?_
    show lG _ _ = _
    have : decide (((E.length : Nat) : Int) < (((pairs 0 B E).length : Nat) : Int)) = false := by simp [tE]; omega
    simp only [lG, this, cond_false]
    rw [HX 0 1125899906842624 B E (by omega)]
  | n + 1, E, h => by
    have h1 : decide (((E.length : Nat) : Int) < (((pairs 0 B E).length : Nat) : Int)) = true := by simp [tE]; omega
    have hb : (fun s : List aQ × Int => lG s.1 s.2) (pairs 0 B E, ((E.length : Nat) : Int)) = some (.inl (pairs 0 B (E ++ [1125899906842624]), (((E ++ [1125899906842624]).length : Nat) : Int))) := by
      show lG _ _ = _
      simp only [lG, h1, cond_true, WX (show E.length < B.length by omega) hB, Option.bind_some]
      simp
    rw [dO hb, SJ hB n (E ++ [1125899906842624]) (by simp; omega)]
    rw [zJ 1125899906842624 1125899906842624 B E, zJ 1125899906842624 1125899906842624 B (E ++ [1125899906842624])]
    have : B.length - E.length = B.length - (E ++ [(1125899906842624 : Int)]).length + 1 := by simp; omega
    rw [this, List.replicate_succ, List.append_assoc]
    rfl

def yT (f : List aB) : List aQ := pairs 1125899906842624 (mZ f) (ends f)

theorem DI : ∀ {f : List aB} {v : Int}, FN v f → ((ends f).length : Int) ≤ v + (mZ f).length ∨ f = []
  | [], _, _ => .inr rfl
  | j :: r, v, h => by
    left
    rw [BB, sL, List.length_append, List.length_append, List.length_replicate, List.length_replicate]
    rcases DI h.2 with h1 | h1
    · omega
    · subst h1
      have := h.1
      simp [mZ, ends]
      omega

theorem NT {f : List aB} (hf : iX f = true) (hn : ∀ t, 0 ≤ val f t) (hm : kT f ≤ 1000000) : qL f = some (yT f) := by
  have hok := LF hf hn
  have hlen := (pE.1 hf).1
  have hb0 := xF f
  unfold qL
  rw [KF hf]
  simp only [Option.bind_some]
  have h0 := tP f
  rw [bE ⟨h0, by omega, by omega⟩]
  unfold vK
  have key := qV (l := f) (body := fun s : List aQ × Int × Int => mO f (f.length : Nat) s.1 s.2.1 s.2.2) (fun (s : List Int × List Int) i => (pairs 0 s.1 s.2, ((s.2.length : Nat) : Int), i)) (fun s r => (pairs 0 (s.1 ++ mZ r) (s.2 ++ ends r), (((s.2 ++ ends r).length : Nat) : Int)))
    (fun s r => s.2.length ≤ s.1.length ∧ FN ((s.1.length : Int) - s.2.length) r ∧ s.1.length + (mZ r).length ≤ 1000000 ∧ ∀ j ∈ r, j.Net ≤ 1048576 ∧ -1048576 ≤ j.Net) ([], []) ?_ ?_ ⟨by simp, by simpa using hok, by simp; omega, wB hf⟩
  · simp only [pairs, List.length_nil, Int.natCast_zero, List.nil_append] at key
    rw [key]
    simp only [Option.bind_some, rV, vQ]
    have he : (ends f).length ≤ (mZ f).length := by
      rcases DI hok with h | h
      · omega
      · subst h; simp [ends]
    rw [SJ (by omega) ((mZ f).length - (ends f).length) (ends f) (by omega)]
    rfl
  · rintro i j r ⟨B, E⟩ ha ⟨h1, h2, h3, h4⟩
    left
    simp only at h1 h2 h3
    obtain ⟨d1, d2, d3, d4⟩ := idx ha (by omega)
    have hj := h4 j (by simp)
    have hv := h2.1
    rw [sL, List.length_append, List.length_replicate] at h3
    have hw : IntKind.i64.wrap (0 - j.Net) = -j.Net := by rw [eE (by omega) (by omega)]; omega
    refine ⟨(B ++ List.replicate j.Net.toNat j.At, E ++ List.replicate (-j.Net).toNat j.At), ?_, ⟨by simp; omega, ?_, by simp; omega, fun k hk => h4 k (by simp [hk])⟩, ?_⟩
    · show mO _ _ _ _ _ = _
      simp only [mO, d1, cond_true, bE d2, d3, vT]
      have b1 := OT (f := f) (i := (i : Int)) (j := j) (E := E) (f.length : Nat) (by omega) j.Net.toNat 0 B h1 (by omega) (by omega)
      have e1 := WQ (f := f) (i := (i : Int)) (j := j) (B := B ++ List.replicate j.Net.toNat j.At) (f.length : Nat) (by simp; omega) (by omega) (-j.Net).toNat 0 E (by omega) (by simp; omega)
      simp only [Int.natCast_zero] at b1 e1
      rw [b1]
      simp only [Option.bind_some, rO, hw, vJ]
      rw [e1]
      simp only [Option.bind_some, sD, d4]
      simp
    · have : (((B ++ List.replicate j.Net.toNat j.At).length : Nat) : Int) - (((E ++ List.replicate (-j.Net).toNat j.At).length : Nat) : Int) = (B.length : Int) - E.length + j.Net := by simp; omega
      simp only
      rw [this]; exact h2.2
    · simp only [sL, BB, List.append_assoc]
  · rintro ⟨B, E⟩ _
    show mO _ _ _ _ _ = _
    simp only [mO, gN, cond_false]
    simp [mZ, ends]

def zU (f : List aB) : List aQ × Int := if !iX f then ([], 2) else if decide (tU f < 0) then ([], 20) else if decide (4096 < kT f) then ([], 7) else (yT f, 0)

theorem PF (f : List aB) : tA f = some (zU f) := by
  unfold tA zU
  rw [ES]
  cases hf : iX f
  · simp
  · simp only [Option.bind_some, Bool.not_true, cond_false, NZ, hf, if_true, Bool.false_eq_true, if_false]
    by_cases h1 : tU f < 0
    · simp [h1]
    · simp only [h1, decide_false, cond_false, KF hf, Option.bind_some, Bool.false_eq_true, if_false]
      by_cases h2 : 4096 < kT f
      · simp [h2]
      · simp only [h2, decide_false, cond_false, NT hf ((AW hf).1 (by omega)) (by omega), Option.bind_some, Bool.false_eq_true, if_false]

end Go.Abs
namespace Go.Abs
open Go
def CK (r : List aI) (ss : List aQ) : List aR := ss.map fun s => ⟨r, s⟩

def FU (gs : List (List aI × List aB)) : List aR := gs.flatMap fun g => CK g.1 (yT g.2)

def xE (gs : List (List aI × List aB)) : Int := (gs.map fun g => kT g.2).sum

theorem UF (g : List aI × List aB) (gs : List (List aI × List aB)) : FU (g :: gs) = CK g.1 (yT g.2) ++ FU gs := rfl

theorem DD (g : List aI × List aB) (gs : List (List aI × List aB)) : xE (g :: gs) = kT g.2 + xE gs := by simp [xE]

theorem zR : ∀ gs : List (List aI × List aB), 0 ≤ xE gs
  | [] => by simp [xE]
  | g :: gs => by rw [DD]; have := zR gs; have := tP g.2; omega

theorem JD (f : List aB) : ((yT f).length : Int) = kT f := by rw [yT, tE, xF]

def JT (l : List aD) : List aR × Int := if !BL l then ([], 2) else if !AB l then ([], 20) else if decide (4096 < xE (groups l)) then ([], 7) else (FU (groups l), 0)

theorem OW (l0 c : List aD) : ∀ (gs : List (List aI × List aB)) (n : Int), (∀ g ∈ gs, iX g.2 = true) → 0 ≤ n → n + 1073741824 * gs.length ≤ 4611686018427387904 →
    itG (fun st t22 t23 => rnd (fun (s : Int) => nG l0 c s t22 t23) st) gs (.inl n) = some (.inl (n + xE gs))
  | [], n, _, _, _ => by simp [itG, xE]
  | g :: gs, n, hg, hn, hb => by
    have hm := hg g (by simp)
    have h0 := tP g.2
    have h1 := QH (f := g.2) fun j hj => (wB hm j hj).1
    have h2 := (pE.1 hm).1
    simp only [List.length_cons] at hb
    have hw : IntKind.i64.wrap (n + kT g.2) = n + kT g.2 := eE (by omega) (by omega)
    have hl : nG l0 c n g.1 g.2 = some (.inl (n + kT g.2)) := by
      unfold nG
      rw [KF hm]
      simp only [Option.bind_some, hw]
    simp only [itG, rnd, hl, Option.bind_some, Sum.isLeft_inl, if_true]
    have := OW l0 c gs (n + kT g.2) (fun q hq => hg q (by simp [hq])) (by omega) (by omega)
    simp only [rnd] at this
    rw [this, DD, Int.add_assoc]

theorem aAC {r : List aI} (hr : r.length ≤ 4398046510976) (ss : List aQ) (out : List aR) (h : out.length + ss.length ≤ 1000000) : qM out r ss ((ss.length : Nat) : Int) 0 = some (.inl (out ++ CK r ss)) := by
  unfold qM
  rw [qV (l := ss) (body := fun s : List aR × Int => lR r ss (ss.length : Nat) s.1 s.2) (fun o i => (o, i)) (fun o t => o ++ CK r t) (fun o t => o.length + t.length ≤ 1000000) out ?_ ?_ h]
  · rfl
  · intro i a t o ha hi
    left
    obtain ⟨d1, d2, d3, d4⟩ := idx ha (by omega)
    simp only [List.length_cons] at hi
    refine ⟨o ++ [⟨r, a⟩], ?_, by simp; omega, by simp [CK]⟩
    show lR _ _ _ _ _ = _
    simp only [lR, d1, cond_true, bE d2, d3, d4, DF hr, Option.bind_some]
    exact bE (by simp only [List.length_cons, List.length_nil]; omega)
  · intro o _
    show lR _ _ _ _ _ = _
    simp only [lR, gN, cond_false]
    simp [CK]

theorem LP (c : List aD) : ∀ (gs : List (List aI × List aB)) (out : List aR), (∀ g ∈ gs, iX g.2 = true ∧ (∀ t, 0 ≤ val g.2 t) ∧ g.1.length ≤ 4398046510976) → out.length + xE gs ≤ 1000000 →
    itG (fun st t34 t35 => rnd (fun (s : List aR) => nD c s t34 t35) st) gs (.inl out) = some (.inl (out ++ FU gs))
  | [], out, _, _ => by simp [itG, FU]
  | g :: gs, out, hg, hb => by
    obtain ⟨hm, hn, hr⟩ := hg g (by simp)
    have h0 := tP g.2
    have h1 := zR gs
    rw [DD] at hb
    have hs := JD g.2
    have hl : nD c out g.1 g.2 = some (.inl (out ++ CK g.1 (yT g.2))) := by
      unfold nD
      rw [NT hm hn (by omega)]
      simp only [Option.bind_some]
      rw [aAC hr _ _ (by omega)]
    simp only [itG, rnd, hl, Option.bind_some, Sum.isLeft_inl, if_true]
    have := LP c gs (out ++ CK g.1 (yT g.2)) (fun q hq => hg q (by simp [hq])) (by simp only [List.length_append, CK, List.length_map]; omega)
    simp only [rnd] at this
    rw [this, UF, List.append_assoc]

theorem yW : ∀ (l : List aD) (r : List aI) (f : List aB), (gA r f l).length ≤ l.length + 1
  | [], _, _ => by simp [gA]
  | e :: l, r, f => by
    rw [RO]
    split
    · have := yW l r (f ++ [jE e]); simp only [List.length_cons]; omega
    · have := yW l e.Row [jE e]; simp only [List.length_cons]; omega

theorem UK (l : List aD) : (groups l).length ≤ l.length := by
  cases l with
  | nil => simp [groups]
  | cons e l => exact yW l e.Row [jE e]

theorem zW {l : List aD} (ht : AB l = true) {g : List aI × List aB} (hg : g ∈ groups l) : iX g.2 = true ∧ ∀ t, 0 ≤ val g.2 t := by
  obtain ⟨hm, hv⟩ := SW.1 ht
  obtain ⟨_, h2, h3⟩ := JZ hm
  have : g.2 = kD l g.1 := by rw [← wX h3, CN h3 hg]
  exact ⟨(h2 g hg).2, by rw [this]; exact hv g.1⟩

theorem VB {l : List aD} (hl : okL l) : rT l = some (JT l) := by
  unfold rT JT
  rw [RQ hl]
  cases hm : BL l
  · simp
  · simp only [Option.bind_some, Bool.not_true, cond_false, UZ hl, Bool.false_eq_true, if_false]
    cases ht : AB l
    · simp
    · have hn := (JZ hm).1
      have hgl := UK l
      have h0 := zR (groups l)
      simp only [Bool.not_true, cond_false, Bool.false_eq_true, if_false, pG, Option.bind_some, tY]
      have hc := OW l l (groups l) 0 (fun g hg => (zW ht hg).1) (by omega) (by omega)
      rw [JK hl (s' := .inl (0 + xE (groups l))) (by rw [hm]; simpa using hc)]
      simp only [Option.bind_some, Sum.elim_inl, Int.zero_add]
      by_cases h7 : 4096 < xE (groups l)
      · simp [h7]
      · simp only [h7, decide_false, cond_false, Bool.false_eq_true, if_false]
        rw [bE ⟨h0, by omega, by omega⟩]
        unfold qK
        have hp := LP l (groups l) [] (fun g hg => ⟨(zW ht hg).1, (zW ht hg).2, LB hl hg⟩) (by simp; omega)
        rw [JK hl (s' := .inl ([] ++ FU (groups l))) (by rw [hm]; simpa using hp)]
        rfl

def YQ (s : aQ) : Bool := UD s || ((decide (s.From = -1) && decide (0 ≤ s.To)) && decide (s.To ≤ 1125899906842624))

def GU (p : aR) : Bool := pX p.Row && YQ p.Span

theorem RR (p : aR) : rE p = some (GU p) := by
  unfold rE GU
  rw [BX]
  cases h : pX p.Row
  · simp [dF]
  · simp only [dF, cond_true, Option.bind_some, yE, SQ, YQ, Bool.true_and]

def okP (l : List aR) : Prop := l.length ≤ 3518437208783 ∧ ∀ e ∈ l, e.Row.length ≤ 4398046510976

theorem PT {l : List aR} {f : aR → Option Bool} {g : aR → Bool} (hl : l.length ≤ 1099511627776) (hf : ∀ x ∈ l, f x = some (g x)) : cZ l f = some (l.any g) := by
  unfold cZ fA eO
  obtain ⟨x, e, hx⟩ := AH hl hf l 0 rfl (Nat.zero_le _)
  have e' : lp (fun s => eR f l (l.length : Nat) s) 0 = some x := e
  rw [e']
  rcases hx with ⟨rfl, h⟩ | ⟨i, rfl, _, _, h, _⟩
  · simp [dI, h]
  · simp [h]

def peL (l : List aR) : List aD := l.flatMap fun p => [⟨p.Row, p.Span.From, 1⟩, ⟨p.Row, p.Span.To, -1⟩]

theorem PS (p : aR) (l : List aR) : peL (p :: l) = [⟨p.Row, p.Span.From, 1⟩, ⟨p.Row, p.Span.To, -1⟩] ++ peL l := rfl

theorem KP : ∀ l : List aR, (peL l).length = 2 * l.length
  | [] => rfl
  | p :: l => by rw [PS, List.length_append, KP l]; simp; omega

theorem SC {l : List aR} (hl : okP l) (h : l.length ≤ 1000000) : okL (peL l) :=
  ⟨by rw [KP]; omega, fun e he => by
    obtain ⟨p, hp, h1⟩ := List.mem_flatMap.1 he
    have := hl.2 p hp
    simp only [List.mem_cons, List.not_mem_nil, or_false] at h1
    rcases h1 with rfl | rfl <;> exact this⟩

def yU (l : List aR) : List aD × Int := if l.any (fun p => !GU p) then ([], 2) else if decide (4096 < l.length) then ([], 7) else vH (peL l)

theorem VR {l : List aR} (hl : okP l) (hn : l.length ≤ 1099511627776) : tT l = some (yU l) := by
  unfold tT yU
  rw [PT (g := fun p => !GU p) hn (fun p _ => by simp [qJ, RR])]
  simp only [Option.bind_some]
  cases h1 : l.any fun p => !GU p
  · simp only [cond_false, Bool.false_eq_true, if_false]
    by_cases h2 : 4096 < l.length
    · have h2' : (4096 : Int) < ((l.length : Nat) : Int) := by omega
      simp [h2, h2']
    · have h2' : ¬ (4096 : Int) < ((l.length : Nat) : Int) := by omega
      simp only [h2, h2', decide_false, cond_false, Bool.false_eq_true, if_false]
      have hw : IntKind.i64.wrap ((2 : Int) * ((l.length : Nat) : Int)) = 2 * ((l.length : Nat) : Int) := eE (by omega) (by omega)
      rw [hw, bE ⟨by omega, by omega, by omega⟩]
      unfold vR
      rw [qV (l := l) (body := fun s : List aD × Int => mT l (l.length : Nat) s.1 s.2) (fun o i => (o, i)) (fun o t => o ++ peL t) (fun o t => o.length + 2 * t.length ≤ 1000000) [] ?_ ?_ (by simp; omega)]
      · simp only [Option.bind_some, List.nil_append, rZ]
        rw [XA (SC hl (by omega)) (by rw [KP]; omega)]
        rfl
      · intro i a t o ha hi
        left
        obtain ⟨d1, d2, d3, d4⟩ := idx ha (by omega)
        simp only [List.length_cons] at hi
        refine ⟨o ++ [⟨a.Row, a.Span.From, 1⟩, ⟨a.Row, a.Span.To, -1⟩], ?_, by simp; omega, by rw [PS]; simp⟩
        show mT _ _ _ _ = _
        simp only [mT, d1, cond_true, bE d2, d3, d4]
        exact bE (by simp only [List.length_cons, List.length_nil]; omega)
      · intro o _
        show mT _ _ _ _ = _
        simp only [mT, gN, cond_false]
        simp [peL]
  · simp

def MV (l : List aR) : List aR × Int := if (yU l).2 ≠ 0 then ([], (yU l).2) else JT (yU l).1

theorem UG {l : List aR} (hl : okP l) : okL (yU l).1 := by
  unfold yU
  split
  · exact JV
  · split
    · exact JV
    · rename_i h
      exact WK (SC hl (by simp at h; omega))

theorem PC {l : List aR} (hl : okP l) (hn : l.length ≤ 1099511627776) : sJ l = some (MV l) := by
  unfold sJ MV
  rw [VR hl hn]
  simp only [Option.bind_some]
  by_cases h : (yU l).2 = 0
  · simp only [h, decide_true, Bool.not_true, cond_false, VB (UG hl), Option.bind_some, ne_eq, not_true_eq_false, if_false]
  · simp [h]

end Go.Abs
namespace Go.Abs
open Go
theorem aAf {f : List aB} (h : FN 0 f) : (ends f).length ≤ (mZ f).length := by
  rcases DI h with h | h
  · omega
  · subst h; simp [ends]

end Go.Abs
namespace Go.Abs
open Go
theorem qC (x y : aR) : x = y ↔ (x.Span.From = y.Span.From ∧ x.Span.To = y.Span.To) ∧ x.Row = y.Row := by
  obtain ⟨r, a, b⟩ := x
  obtain ⟨q, c, d⟩ := y
  simp only [aR.mk.injEq, aQ.mk.injEq]
  constructor
  · rintro ⟨h1, h2, h3⟩; exact ⟨⟨h2, h3⟩, h1⟩
  · rintro ⟨⟨h2, h3⟩, h1⟩; exact ⟨h1, h2, h3⟩

theorem PR (x y : aR) (hl : x.Row.length ≤ 17592186044416) : nV x y = some (decide (x = y)) := by
  unfold nV
  rw [IB _ _ hl]
  by_cases h : x.Span.From = y.Span.From ∧ x.Span.To = y.Span.To
  · by_cases h2 : x.Row = y.Row
    · simp [h.1, h.2, h2, dF, qC]
    · simp [h.1, h.2, h2, dF, qC]
  · have : ((decide (x.Span.From = y.Span.From)) && ((decide (x.Span.To = y.Span.To)) && true)) = false := by
      simp only [Bool.and_true, Bool.and_eq_false_iff, decide_eq_false_iff_not]
      by_cases h1 : x.Span.From = y.Span.From
      · exact .inr fun h2 => h ⟨h1, h2⟩
      · exact .inl h1
    have hn : ¬ x = y := fun e => h ((qC x y).1 e).1
    rw [this]; simp [dF, hn]

theorem RC {a b : List aR} (hl : okP a) : sP a b = some (decide (a = b)) := by
  unfold sP cP
  have hlen := hl.1
  by_cases he : a.length = b.length
  · rw [JB he, cond_false]
    unfold cO
    have := IZ (f := a) (g := b) (body := fun s => cA (fun y0 y1 => nV y0 y1) b a (a.length : Nat) s) he ?_ ?_ a.length 0 rfl (Nat.zero_le _)
    · simp only [Int.natCast_zero, List.drop_zero] at this
      rw [this]
      by_cases h : a = b <;> simp [h, cF]
    · intro i x y hx hy
      obtain ⟨d1, d2, d3, d4⟩ := idx hx (by omega)
      obtain ⟨_, e2, e3, _⟩ := idx hy (by omega)
      have hr := hl.2 x (List.mem_of_getElem? hx)
      simp only [cA, d1, cond_true, bE d2, bE e2, d3, e3, d4, PR x y (by omega), Option.bind_some]
      by_cases h : x = y <;> simp [h]
    · simp only [cA, gN, cond_false]
  · rw [IF he, cond_true]
    have : a ≠ b := fun h => he (by rw [h])
    simp [this]

theorem RH {a b : List aR} (hl : okP a) : qW a b = some (decide (a = b)) := by
  unfold qW
  have hlen := hl.1
  by_cases he : a.length = b.length
  · rw [JB he, cond_false]
    unfold vO
    have := IZ (f := a) (g := b) (body := fun s => pH a b s) he ?_ ?_ a.length 0 rfl (Nat.zero_le _)
    · simp only [Int.natCast_zero, List.drop_zero] at this
      rw [this]
      by_cases h : a = b <;> simp [h, rK]
    · intro i x y hx hy
      obtain ⟨d1, d2, d3, d4⟩ := idx hx (by omega)
      obtain ⟨_, e2, e3, _⟩ := idx hy (by omega)
      have hr := hl.2 x (List.mem_of_getElem? hx)
      simp only [pH, d1, cond_true, bE d2, bE e2, d3, e3, d4]
      rw [bE fun _ => d2, bE fun _ => e2, MI _ _ (by omega)]
      by_cases h : x.Span.From = y.Span.From ∧ x.Span.To = y.Span.To
      · by_cases h2 : x.Row = y.Row
        · simp [h.1, h.2, h2, dF, qC]
        · simp [h.1, h.2, h2, dF, qC]
      · have : ((decide (x.Span.From = y.Span.From)) && ((decide (x.Span.To = y.Span.To)) && true)) = false := by
          simp only [Bool.and_true, Bool.and_eq_false_iff, decide_eq_false_iff_not]
          by_cases h1 : x.Span.From = y.Span.From
          · exact .inr fun h2 => h ⟨h1, h2⟩
          · exact .inl h1
        have hn : ¬ x = y := fun e => h ((qC x y).1 e).1
        rw [this]; simp [dF, hn]
    · simp only [pH, gN, cond_false]
  · rw [IF he, cond_true]
    have : a ≠ b := fun h => he (by rw [h])
    simp [this]

def mA (a b : Int) : aR := ⟨[⟨1, 1, ByteArray.empty⟩], ⟨a, b⟩⟩

theorem XZ (a b : Int) : jI a b = some (mA a b) := rfl

theorem IW {l : List aR} (h : l.length ≤ 4096) (hr : ∀ e ∈ l, e.Row.length ≤ 8) : okP l := ⟨by omega, fun e he => by have := hr e he; omega⟩

theorem aAc : MV [mA 5 9, mA 2 5] = ([mA 2 9], 0) := by decide +kernel

theorem ZN : MV [mA 1 10, mA 3 5] = ([mA 1 5, mA 3 10], 0) := by decide +kernel

theorem KV : qF = some true := by
  unfold qF
  simp only [XZ, Option.bind_some]
  rw [PC (l := [mA 5 9, mA 2 5]) (IW (by simp) (by simp [mA])) (by simp), aAc]
  simp only [Option.bind_some]
  rw [PC (l := [mA 1 10, mA 3 5]) (IW (by simp) (by simp [mA])) (by simp), ZN]
  simp only [Option.bind_some]
  have g1 : sP [mA 2 9] [mA 2 9] = some (decide ([mA 2 9] = [mA 2 9])) := RC (IW (by simp) (by simp [mA]))
  have g2 : qW [mA 1 5, mA 3 10] [mA 1 5, mA 3 10] = some (decide ([mA 1 5, mA 3 10] = [mA 1 5, mA 3 10])) := RH (IW (by simp) (by simp [mA]))
  have h1 : GU (mA (-1) 0) = true := by decide +kernel
  have h2 : GU (mA 3 3) = false := by decide +kernel
  simp [dF, g1, g2, RR, h1, h2]

end Go.Abs
namespace Go.Abs
open Go
theorem aAm {f : List aB} (hf : ∀ j ∈ f, j.Net ≤ 1048576 ∧ -1048576 ≤ j.Net) (hl : f.length ≤ 1024) : pP f [] [] 0 0 = oP f [] [] (kT f) := by
  unfold pP
  rw [qV (l := f) (body := fun s : List Int × List Int × Int × Int => kW f s.1 s.2.1 s.2.2.1 s.2.2.2) (fun n i => ([], [], n, i)) (fun n r => ([], [], n + kT r)) (fun n r => 0 ≤ n ∧ n + 1048576 * r.length ≤ 1073741824 ∧ ∀ j ∈ r, j ∈ f) 0 ?_ ?_ ⟨by omega, by omega, fun _ h => h⟩]
  · simp
  · intro i a r n ha hi
    left
    obtain ⟨d1, d2, d3, d4⟩ := idx ha (by omega)
    obtain ⟨h0, h1, h2⟩ := hi
    have ha2 := hf a (h2 a (by simp))
    simp only [List.length_cons] at h1
    show ∃ s', kW _ _ _ _ _ = _ ∧ _
    simp only [kW, d1, cond_true, bE d2, d3]
    by_cases h : 0 < a.Net
    · refine ⟨n + a.Net, ?_, ⟨by omega, by omega, fun j hj => h2 j (by simp [hj])⟩, by rw [uF, if_pos h, Int.add_assoc]⟩
      simp only [h, decide_true, cond_true, nS, d4]
      rw [eE (by omega) (by omega)]
    · refine ⟨n, ?_, ⟨by omega, by omega, fun j hj => h2 j (by simp [hj])⟩, by rw [uF, if_neg h, Int.zero_add]⟩
      simp only [h, decide_false, cond_false, nS, d4]
  · intro n _
    show kW _ _ _ _ _ = _
    simp only [kW, gN, cond_false]
    simp [kT]

theorem LC {f : List aB} {i : Int} {j : aB} {E : List Int} (d2 : 0 ≤ i ∧ i < ((List.length f : Nat) : Int)) (d3 : List.getD f (Int.toNat i) default = j) (hN : j.Net ≤ 1048576) : ∀ (n k : Nat) (B : List Int), j.Net.toNat = k + n → B.length + n ≤ 1000000 →
    lp (fun s : List Int × List Int × Int => kX f i s.1 s.2.1 s.2.2) (B, E, (k : Int)) = some (B ++ List.replicate n j.At, E)
  | 0, k, B, h, _ => cM (by
      show kX _ _ _ _ _ = _
      have : decide ((k : Int) < j.Net) = false := by simp; omega
      simp only [kX, bE d2, d3, this, cond_false]
      simp)
  | n + 1, k, B, h, hB => by
    rw [dO (s' := (B ++ [j.At], E, ((k + 1 : Nat) : Int))) ?_, LC d2 d3 hN n (k + 1) (B ++ [j.At]) (by omega) (by simp; omega)]
    · rw [List.append_assoc]; rfl
    · show kX _ _ _ _ _ = _
      have : decide ((k : Int) < j.Net) = true := by simp; omega
      simp only [kX, bE d2, d3, this, cond_true]
      rw [bE (by simp only [List.length_cons, List.length_nil]; omega), eE (by omega) (by omega)]
      rfl

theorem RU {f : List aB} {i : Int} {j : aB} {B : List Int} (d2 : 0 ≤ i ∧ i < ((List.length f : Nat) : Int)) (d3 : List.getD f (Int.toNat i) default = j) (hN : -1048576 ≤ j.Net ∧ j.Net ≤ 1048576) : ∀ (n k : Nat) (E : List Int), (-j.Net).toNat = k + n → E.length + n ≤ 1000000 →
    lp (fun s : List Int × List Int × Int => lU f i s.1 s.2.1 s.2.2) (B, E, (k : Int)) = some (B, E ++ List.replicate n j.At)
  | 0, k, E, h, _ => cM (by
      show lU _ _ _ _ _ = _
      have : decide ((k : Int) < IntKind.i64.wrap (0 - j.Net)) = false := by rw [eE (by omega) (by omega)]; simp; omega
      simp only [lU, bE d2, d3, this, cond_false]
      simp)
  | n + 1, k, E, h, hB => by
    rw [dO (s' := (B, E ++ [j.At], ((k + 1 : Nat) : Int))) ?_, RU d2 d3 hN n (k + 1) (E ++ [j.At]) (by omega) (by simp; omega)]
    · rw [List.append_assoc]; rfl
    · show lU _ _ _ _ _ = _
      have : decide ((k : Int) < IntKind.i64.wrap (0 - j.Net)) = true := by rw [eE (by omega) (by omega)]; simp; omega
      simp only [lU, bE d2, d3, this, cond_true]
      rw [bE (by simp only [List.length_cons, List.length_nil]; omega), eE (by omega) (by omega)]
      rfl

theorem WH (B E : List Int) (hB : B.length ≤ 1000000) (hE0 : E.length ≤ 1000000) : qP B E [] 0 = some (pairs 1125899906842624 B E, 0) := by
  unfold qP
  have key : ∀ (n : Nat) (k : Nat) (o : List aQ), B.length - k = n → k ≤ B.length → o.length = k →
      lp (fun s : List Int × List Int × List aQ × Int => iR s.1 s.2.1 s.2.2.1 s.2.2.2) (B, E, o, (k : Int)) = some (o ++ pairs 1125899906842624 (B.drop k) (E.drop k)) := by
    intro n
    induction n with
    | zero =>
      intro k o h1 h2 h3
      have : k = B.length := by omega
      subst this
      refine cM ?_
      show iR _ _ _ _ = _
      simp only [iR, gN, cond_false]
      simp [pairs]
    | succ n ih =>
      intro k o h1 h2 h3
      have hk : k < B.length := by omega
      obtain ⟨d1, d2, d3, d4⟩ := idx (List.getElem?_eq_getElem hk) (by omega)
      have hd : B.drop k = B[k] :: B.drop (k + 1) := List.drop_eq_getElem_cons hk
      by_cases hE : k < E.length
      · obtain ⟨e1, e2, e3, _⟩ := idx (List.getElem?_eq_getElem hE) (by omega)
        have he : E.drop k = E[k] :: E.drop (k + 1) := List.drop_eq_getElem_cons hE
        rw [dO (s' := (B, E, o ++ [⟨B[k], E[k]⟩], ((k + 1 : Nat) : Int))) ?_, ih (k + 1) _ (by omega) (by omega) (by simp [h3]), hd, he]
        · rw [pairs, List.append_assoc]; rfl
        · show iR _ _ _ _ = _
          simp only [iR, d1, cond_true, bE d2, d3, e1, bE e2, e3, oN, d4]
          rw [bE (by simp only [List.length_cons, List.length_nil]; omega)]
      · have e1 : decide ((k : Int) < ((List.length E : Nat) : Int)) = false := by simp; omega
        have he : E.drop k = [] := List.drop_eq_nil_of_le (by omega)
        have he2 : E.drop (k + 1) = [] := List.drop_eq_nil_of_le (by omega)
        rw [dO (s' := (B, E, o ++ [⟨B[k], 1125899906842624⟩], ((k + 1 : Nat) : Int))) ?_, ih (k + 1) _ (by omega) (by omega) (by simp [h3]), hd, he, he2]
        · rw [pairs, List.append_assoc]; rfl
        · show iR _ _ _ _ = _
          simp only [iR, d1, cond_true, bE d2, d3, e1, cond_false, oN, d4]
          rw [bE (by simp only [List.length_cons, List.length_nil]; omega)]
  have := key B.length 0 [] (by omega) (by omega) rfl
  simp only [Int.natCast_zero, List.drop_zero, List.nil_append] at this
  rw [this]
  rfl

theorem aAH {f : List aB} (hf : ∀ j ∈ f, j.Net ≤ 1048576 ∧ -1048576 ≤ j.Net) (hl : f.length ≤ 1024) (h1 : (mZ f).length ≤ 1000000) (h2 : (ends f).length ≤ 1000000) : qG f [] [] 0 = qU (mZ f) (ends f) := by
  unfold qG
  rw [qV (l := f) (body := fun s : List Int × List Int × Int => lQ f s.1 s.2.1 s.2.2) (fun (s : List Int × List Int) i => (s.1, s.2, i)) (fun s r => (s.1 ++ mZ r, s.2 ++ ends r)) (fun s r => s.1.length + (mZ r).length ≤ 1000000 ∧ s.2.length + (ends r).length ≤ 1000000 ∧ ∀ j ∈ r, j ∈ f) ([], []) ?_ ?_ ⟨by simpa using h1, by simpa using h2, fun _ h => h⟩]
  · simp
  · intro i a r s ha hi
    obtain ⟨B, E⟩ := s
    left
    obtain ⟨d1, d2, d3, d4⟩ := idx ha (by omega)
    obtain ⟨g1, g2, g3⟩ := hi
    have ha2 := hf a (g3 a (by simp))
    rw [sL, List.length_append, List.length_replicate] at g1
    rw [BB, List.length_append, List.length_replicate] at g2
    simp only at g1 g2
    refine ⟨(B ++ List.replicate a.Net.toNat a.At, E ++ List.replicate (-a.Net).toNat a.At), ?_, ⟨by simp only [List.length_append, List.length_replicate]; omega, by simp only [List.length_append, List.length_replicate]; omega, fun j hj => g3 j (by simp [hj])⟩, by simp [sL, BB]⟩
    show lQ _ _ _ _ = _
    simp only [lQ, d1, cond_true, sX]
    have p1 := LC (E := E) d2 d3 ha2.1 a.Net.toNat 0 B (by omega) (by omega)
    have p2 := RU (B := B ++ List.replicate a.Net.toNat a.At) d2 d3 ⟨ha2.2, ha2.1⟩ (-a.Net).toNat 0 E (by omega) (by omega)
    simp only [Int.natCast_zero] at p1 p2
    rw [p1]
    simp only [Option.bind_some, qS, uJ]
    rw [p2]
    simp only [Option.bind_some, qN, d4]
  · intro s _
    show lQ _ _ _ _ = _
    simp only [lQ, gN, cond_false]
    simp [mZ, ends]

theorem QK (f : List aB) : rU f = some (zU f) := by
  unfold rU zU
  rw [LR]
  simp only [Option.bind_some]
  by_cases hm : iX f = true
  · rw [QX, hm]
    simp only [Bool.not_true, cond_false, if_true, Option.bind_some, Bool.false_eq_true, if_false]
    by_cases h2 : tU f < 0
    · simp [h2]
    · have hl := (pE.1 hm).1
      simp only [h2, decide_false, cond_false, Bool.false_eq_true, if_false]
      rw [aAm (wB hm) hl]
      unfold oP
      by_cases h3 : 4096 < kT f
      · simp [h3]
      · simp only [h3, decide_false, cond_false, Bool.false_eq_true, if_false]
        have hb : (mZ f).length ≤ 4096 := by have := xF f; omega
        have he := aAf (LF hm ((AW hm).1 (by omega)))
        rw [aAH (wB hm) hl (by omega) (by omega)]
        exact WH _ _ (by omega) (by omega)
  · simp [hm]

theorem WM {f : List aB} : (zU f).1.length ≤ 4096 := by
  unfold zU
  split
  · simp
  · split
    · simp
    · split
      · simp
      · rename_i h
        have := JD f
        simp at h
        simp only
        omega

theorem JO (l0 : (List aB)) (m0 : ∀ a ∈ l0, xZ a) (y0 : List.length l0 * 16 ≤ 140737488351232) : qA l0 = some true := by
  unfold qA yF
  simp only [Option.bind_some]
  by_cases c : ((List.length l0 : Nat) : Int) ≤ 60
  · simp only [c, decide_true, Bool.not_true, cond_false, PF, QK, Option.bind_some, Bool.or_self, pT]
    have hle := WM (f := l0)
    rw [aAM (l := (zU l0).1) (fun i => i) (fun _ => false) (.inr false) (.inl ()) ?_ ?_]
    · simp [nP, KV]
    · intro i x hi
      obtain ⟨e1, e2, e3, e4⟩ := idx hi (by omega)
      show jC _ _ _ = _
      simp only [jC, e1, cond_true, bE e2, e3, e4]
      simp
    · show jC _ _ _ = _
      simp only [jC, gN, cond_false]
  · simp [c, KV]

end Go.Abs
