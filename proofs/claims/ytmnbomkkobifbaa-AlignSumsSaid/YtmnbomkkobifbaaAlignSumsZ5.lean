/- What the law AlignSums stands on: the framework, the given functions as plain functions, their walks, and the plain laws; part 5. -/
import Derived.Test.YtmnbomkkobifbaaAlignSumsZ4
set_option linter.unusedSimpArgs false
set_option linter.unusedVariables false
namespace Go.Abs
open Go
variable {α : Type} [Inhabited α] {ok : α → Prop} {le : α → α → Prop} {cmp : α → α → Option Int}
theorem GN (C : Cmp ok le cmp) : ∀ (k : Nat) (P A B S : List α) (a m b : Int), A ≠ [] → B ≠ [] → Oks ok A → Oks ok B → Srt le A → Srt le B →
    a = (P.length : Nat) → m = ((P.length + A.length : Nat) : Int) → b = ((P.length + A.length + B.length : Nat) : Int) → (P ++ A ++ B ++ S).length ≤ 1099511627776 →
    (∀ r, eC cmp k (P ++ A ++ B ++ S) a m b = some r → IM le P A B S r) ∧ (A.length + B.length ≤ k → ∃ r, eC cmp k (P ++ A ++ B ++ S) a m b = some r)
  | 0, P, A, B, S, a, m, b, hA, hB, oA, oB, sA, sB, ha, hm, hb, hl => by
    refine ⟨fun r h => by simp [eC] at h, fun h => ?_⟩
    exact absurd (List.length_eq_zero_iff.1 (by omega)) hA
  | k + 1, P, A, B, S, a, m, b, hA, hB, oA, oB, sA, sB, ha, hm, hb, hl => by
    have part : ∀ (P' A' B' S' : List α) (a' m' b' : Int), Oks ok A' → Oks ok B' → Srt le A' → Srt le B' → a' = (P'.length : Nat) → m' = ((P'.length + A'.length : Nat) : Int) → b' = ((P'.length + A'.length + B'.length : Nat) : Int) → (P' ++ A' ++ B' ++ S').length ≤ 1099511627776 →
        (∀ r, cond (decide (A' ≠ [] ∧ B' ≠ [])) (eC cmp k (P' ++ A' ++ B' ++ S') a' m' b') (some (P' ++ A' ++ B' ++ S')) = some r → IM le P' A' B' S' r) ∧
        (A'.length + B'.length ≤ k → ∃ r, cond (decide (A' ≠ [] ∧ B' ≠ [])) (eC cmp k (P' ++ A' ++ B' ++ S') a' m' b') (some (P' ++ A' ++ B' ++ S')) = some r) := by
      intro P' A' B' S' a' m' b' oA' oB' sA' sB' ha' hm' hb' hl'
      by_cases h : A' ≠ [] ∧ B' ≠ []
      · rw [decide_eq_true h, cond_true]
        exact GN C k P' A' B' S' a' m' b' h.1 h.2 oA' oB' sA' sB' ha' hm' hb' hl'
      · rw [decide_eq_false h, cond_false]
        refine ⟨fun r hr => ?_, fun _ => ⟨_, rfl⟩⟩
        cases hr
        refine ⟨A' ++ B', List.Perm.refl _, ?_, by simp⟩
        by_cases h1 : A' = []
        · subst h1; simpa using sB'
        · have h2 : B' = [] := Classical.byContradiction fun h2 => h ⟨h1, h2⟩
          subst h2; simpa using sA'
    rcases ZP C hA hB oA oB sA sB ha hm hb hl with ⟨r, hr, hs⟩ | ⟨A1, A2, B1, B2, rfl, rfl, p1, p2, hcross, hs⟩
    · have e : eC cmp (k + 1) (P ++ A ++ B ++ S) a m b = some r := hs _
      exact ⟨fun r' h => by rw [e] at h; cases h; exact hr, fun _ => ⟨r, e⟩⟩
    · have e := hs (eC cmp k)
      rw [show dY cmp (eC cmp k) = eC cmp (k + 1) from rfl] at e
      have q1 := part P A1 B1 (A2 ++ B2 ++ S) a (a + (A1.length : Nat)) (a + ((A1.length + B1.length : Nat) : Int)) (fun x hx => oA x (by simp [hx])) (fun x hx => oB x (by simp [hx]))
        (List.pairwise_append.1 sA).1 (List.pairwise_append.1 sB).1 ha (by omega) (by omega) (by simp only [List.length_append] at hl ⊢; omega)
      have hd1 : P ++ A1 ++ B1 ++ A2 ++ B2 ++ S = P ++ A1 ++ B1 ++ (A2 ++ B2 ++ S) := by simp
      rw [hd1] at e
      have q2 : ∀ D1 : List α, D1.Perm (A1 ++ B1) → _ := fun D1 hD1 => part (P ++ D1) A2 B2 S (a + ((A1.length + B1.length : Nat) : Int)) (a + ((A1.length + B1.length + A2.length : Nat) : Int)) b (fun x hx => oA x (by simp [hx])) (fun x hx => oB x (by simp [hx]))
        (List.pairwise_append.1 sA).2.1 (List.pairwise_append.1 sB).2.1 (by have := hD1.length_eq; simp only [List.length_append] at this ⊢; omega) (by have := hD1.length_eq; simp only [List.length_append] at this ⊢; omega)
        (by have := hD1.length_eq; rw [hb]; simp only [List.length_append] at this ⊢; congr 1; omega) (by have := hD1.length_eq; simp only [List.length_append] at hl this ⊢; omega)
      refine ⟨fun r h => ?_, fun hk => ?_⟩
      · rw [e] at h
        obtain ⟨x, h1, h2⟩ := Option.bind_eq_some_iff.1 h
        obtain ⟨D1, d1, d2, rfl⟩ := q1.1 x h1
        have h2' : cond (decide (A2 ≠ [] ∧ B2 ≠ [])) (eC cmp k (P ++ D1 ++ A2 ++ B2 ++ S) (a + ((A1.length + B1.length : Nat) : Int)) (a + ((A1.length + B1.length + A2.length : Nat) : Int)) b) (some (P ++ D1 ++ A2 ++ B2 ++ S)) = some r := by
          have : P ++ D1 ++ (A2 ++ B2 ++ S) = P ++ D1 ++ A2 ++ B2 ++ S := by simp
          rw [this] at h2; exact h2
        obtain ⟨D2, f1, f2, rfl⟩ := (q2 D1 d1).1 r h2'
        refine ⟨D1 ++ D2, ?_, ?_, by simp⟩
        · refine (d1.append f1).trans ?_
          have : (B1 ++ (A2 ++ B2)).Perm (A2 ++ (B1 ++ B2)) := by
            have := (List.perm_append_comm (l₁ := B1) (l₂ := A2)).append_right B2
            simpa using this
          have := this.append_left A1
          simpa using this
        · rw [Srt, List.pairwise_append]
          exact ⟨d2, f2, fun x hx y hy => hcross x (d1.mem_iff.1 hx) y (f1.mem_iff.1 hy)⟩
      · simp only [List.length_append] at hk
        obtain ⟨x, hx⟩ := q1.2 (by omega)
        obtain ⟨D1, d1, d2, rfl⟩ := q1.1 x hx
        obtain ⟨r, hr⟩ := (q2 D1 d1).2 (by omega)
        refine ⟨r, ?_⟩
        rw [e, hx]
        have : P ++ D1 ++ (A2 ++ B2 ++ S) = P ++ D1 ++ A2 ++ B2 ++ S := by simp
        rw [this]; exact hr

theorem SB {β : Type} {g : Nat → Option β} (h : ∃ k r, g k = some r) : ∃ r, GZ g = some r := by
  unfold GZ
  rw [dif_pos h]
  exact Classical.choose_spec h

theorem UX (C : Cmp ok le cmp) {P A B S d : List α} {a m b : Int} (hd : d = P ++ A ++ B ++ S) (hA : A ≠ []) (hB : B ≠ []) (oA : Oks ok A) (oB : Oks ok B) (sA : Srt le A) (sB : Srt le B)
    (ha : a = (P.length : Nat)) (hm : m = ((P.length + A.length : Nat) : Int)) (hb : b = ((P.length + A.length + B.length : Nat) : Int)) (hl : d.length ≤ 1099511627776) :
    ∃ D, D.Perm (A ++ B) ∧ Srt le D ∧ oV d a m b cmp = some (P ++ D ++ S) := by
  subst hd
  unfold oV
  obtain ⟨r, hr⟩ := (GN C (A.length + B.length) P A B S a m b hA hB oA oB sA sB ha hm hb hl).2 (Nat.le_refl _)
  obtain ⟨r', hr'⟩ := SB (g := fun k => eC cmp k (P ++ A ++ B ++ S) a m b) ⟨_, r, hr⟩
  obtain ⟨k, hk⟩ := EO hr'
  obtain ⟨D, d1, d2, rfl⟩ := (GN C k P A B S a m b hA hB oA oB sA sB ha hm hb hl).1 r' hk
  exact ⟨D, d1, d2, hr'⟩

inductive nA {β : Type} (le : β → β → Prop) (n : Nat) : List β → Prop
  | last {l : List β} : l.length ≤ n → Srt le l → nA le n l
  | cons {x l : List β} : x.length = n → Srt le x → nA le n l → nA le n (x ++ l)

theorem nA.srt {β : Type} {le : β → β → Prop} {n : Nat} {l : List β} (h : nA le n l) (hl : l.length ≤ n) : Srt le l := by
  cases h with
  | last _ h => exact h
  | cons hx hs hr =>
    rename_i x r
    have : r = [] := List.length_eq_zero_iff.1 (by simp only [List.length_append] at hl; omega)
    subst this; simpa using hs

theorem nA.split {β : Type} {le : β → β → Prop} {n : Nat} {l : List β} (h : nA le n l) (hl : n < l.length) : ∃ x r, l = x ++ r ∧ x.length = n ∧ Srt le x ∧ nA le n r := by
  cases h with
  | last h' _ => omega
  | cons hx hs hr => exact ⟨_, _, rfl, hx, hs, hr⟩

theorem nA.aAh {β : Type} {le : β → β → Prop} {n : Nat} {l : List β} (hn : 0 < n) (h : nA le n l) (hl : 2 * n ≤ l.length) : ∃ x y r, l = x ++ y ++ r ∧ x.length = n ∧ y.length = n ∧ Srt le x ∧ Srt le y ∧ nA le n r := by
  obtain ⟨x, r, rfl, h1, h2, h3⟩ := h.split (by omega)
  simp only [List.length_append] at hl
  by_cases he : r.length = n
  · exact ⟨x, r, [], by simp, h1, he, h2, h3.srt (by omega), nA.last (by simp) List.Pairwise.nil⟩
  · obtain ⟨y, r', rfl, e1, e2, e3⟩ := h3.split (by omega)
    exact ⟨x, y, r', by simp, h1, e1, h2, e2, e3⟩

theorem Oks.perm {β : Type} {ok : β → Prop} {l l' : List β} (h : Oks ok l) (hp : l'.Perm l) : Oks ok l' := fun x hx => h x (hp.mem_iff.1 hx)

theorem aAq (C : Cmp ok le cmp) {n1 : Int} : ∀ (n : Nat) (F G : List α), G.length ≤ n → Oks ok G → n1 = ((F.length + G.length : Nat) : Int) → (F ++ G).length ≤ 1099511627776 →
    ∃ G1 G2, (G1 ++ G2).Perm G ∧ G2.length < 20 ∧ (∀ H, H.length ≤ 20 → Srt le H → nA le 20 (G1 ++ H)) ∧
      lp (fun s : List α × Int × Int => mM cmp n1 20 s.1 s.2.1 s.2.2) (F ++ G, ((F.length : Nat) : Int), ((F.length + 20 : Nat) : Int)) = some (F ++ G1 ++ G2, ((F.length + G1.length : Nat) : Int)) := by
  intro n
  induction n with
  | zero =>
    intro F G hn hG h1 hl
    refine ⟨[], G, by simp, by omega, fun H h2 h3 => nA.last (by simpa using h2) (by simpa using h3), ?_⟩
    rw [cK (r := (F ++ G, ((F.length : Nat) : Int)))]
    · simp
    · have : decide (((F.length + 20 : Nat) : Int) ≤ n1) = false := by subst h1; simp; omega
      simp only [mM, this, cond_false]
  | succ n ih =>
    intro F G hn hG h1 hl
    by_cases hg : G.length < 20
    · refine ⟨[], G, by simp, by omega, fun H h2 h3 => nA.last (by simpa using h2) (by simpa using h3), ?_⟩
      rw [cK (r := (F ++ G, ((F.length : Nat) : Int)))]
      · simp
      · have : decide (((F.length + 20 : Nat) : Int) ≤ n1) = false := by subst h1; simp; omega
        simp only [mM, this, cond_false]
    · obtain ⟨X, R, rfl, hX⟩ : ∃ X R, G = X ++ R ∧ X.length = 20 := ⟨G.take 20, G.drop 20, (List.take_append_drop _ _).symm, by rw [List.length_take]; omega⟩
      simp only [List.length_append] at hn hl h1 hg
      obtain ⟨D, d1, d2, d3⟩ := UC C (P := F) (A := X) (T := R) (a := ((F.length : Nat) : Int)) (b := ((F.length + 20 : Nat) : Int)) rfl (by rw [hX]) (fun x hx => hG x (by simp [hx])) (by simp only [List.length_append]; omega)
      have hD : D.length = 20 := by rw [d1.length_eq, hX]
      obtain ⟨G1, G2, g1, g2, g3, g4⟩ := ih (F ++ D) R (by omega) (fun x hx => hG x (by simp [hx])) (by rw [h1]; simp only [List.length_append]; congr 1; omega) (by simp only [List.length_append]; omega)
      refine ⟨D ++ G1, G2, ?_, g2, fun H h2 h3 => ?_, ?_⟩
      · have := d1.append g1
        simpa using this
      · rw [List.append_assoc]; exact nA.cons hD d2 (g3 H h2 h3)
      · have hb : (fun s : List α × Int × Int => mM cmp n1 20 s.1 s.2.1 s.2.2) (F ++ (X ++ R), ((F.length : Nat) : Int), ((F.length + 20 : Nat) : Int)) = some (.inl (F ++ D ++ R, (((F ++ D).length : Nat) : Int), (((F ++ D).length + 20 : Nat) : Int))) := by
          show mM cmp n1 20 _ _ _ = _
          have : decide (((F.length + 20 : Nat) : Int) ≤ n1) = true := by subst h1; simp; omega
          simp only [mM, this, cond_true]
          rw [show F ++ (X ++ R) = F ++ X ++ R by simp, d3]
          simp only [Option.bind_some, List.length_append, hD]
          rw [wr (by omega) (by omega)]
          congr 1
        rw [eP hb, g4]
        simp only [List.length_append, List.append_assoc]
        congr 2
        congr 1; omega

theorem ZY (C : Cmp ok le cmp) {n1 : Int} {bs : Nat} (hbs : 0 < bs) (hbs' : bs ≤ 1099511627776) : ∀ (n : Nat) (F G : List α), G.length ≤ n → Oks ok G → nA le bs G → n1 = ((F.length + G.length : Nat) : Int) → (F ++ G).length ≤ 1099511627776 →
    ∃ G1 G2, (G1 ++ G2).Perm G ∧ G2.length < 2 * bs ∧ nA le bs G2 ∧ (∀ H, H.length ≤ 2 * bs → Srt le H → nA le (2 * bs) (G1 ++ H)) ∧
      lp (fun s : List α × Int × Int => mN cmp n1 (bs : Int) s.1 s.2.1 s.2.2) (F ++ G, ((F.length : Nat) : Int), ((F.length + 2 * bs : Nat) : Int)) = some (F ++ G1 ++ G2, ((F.length + G1.length : Nat) : Int)) := by
  have stop : ∀ (F G : List α), nA le bs G → G.length < 2 * bs → n1 = ((F.length + G.length : Nat) : Int) → ∃ G1 G2, (G1 ++ G2).Perm G ∧ G2.length < 2 * bs ∧ nA le bs G2 ∧ (∀ H, H.length ≤ 2 * bs → Srt le H → nA le (2 * bs) (G1 ++ H)) ∧
      lp (fun s : List α × Int × Int => mN cmp n1 (bs : Int) s.1 s.2.1 s.2.2) (F ++ G, ((F.length : Nat) : Int), ((F.length + 2 * bs : Nat) : Int)) = some (F ++ G1 ++ G2, ((F.length + G1.length : Nat) : Int)) := by
    intro F G hG hg h1
    refine ⟨[], G, by simp, hg, hG, fun H h2 h3 => nA.last (by simpa using h2) (by simpa using h3), ?_⟩
    rw [cK (r := (F ++ G, ((F.length : Nat) : Int)))]
    · simp
    · have : decide (((F.length + 2 * bs : Nat) : Int) ≤ n1) = false := by subst h1; simp; omega
      show mN cmp n1 _ _ _ _ = _
      simp only [mN, this, cond_false]
  intro n
  induction n with
  | zero => intro F G hn _ hB h1 _; exact stop F G hB (by omega) h1
  | succ n ih =>
    intro F G hn hG hB h1 hl
    by_cases hg : G.length < 2 * bs
    · exact stop F G hB hg h1
    · obtain ⟨x, y, R, rfl, x1, y1, sx, sy, hR⟩ := hB.aAh hbs (by omega)
      simp only [List.length_append] at hn hl h1 hg
      obtain ⟨D, d1, d2, d3⟩ := UX C (P := F) (A := x) (B := y) (S := R) (d := F ++ (x ++ y ++ R)) (a := ((F.length : Nat) : Int)) (m := ((F.length + bs : Nat) : Int)) (b := ((F.length + 2 * bs : Nat) : Int)) (by simp) (fun h => by rw [h] at x1; simp at x1; omega) (fun h => by rw [h] at y1; simp at y1; omega)
        (fun z hz => hG z (by simp [hz])) (fun z hz => hG z (by simp [hz])) sx sy rfl (by rw [x1]) (by rw [x1, y1]; congr 1; omega) (by simp only [List.length_append]; omega)
      have hD : D.length = 2 * bs := by rw [d1.length_eq]; simp only [List.length_append]; omega
      obtain ⟨G1, G2, g1, g2, g3, g4, g5⟩ := ih (F ++ D) R (by omega) (fun z hz => hG z (by simp [hz])) hR (by rw [h1]; simp only [List.length_append]; congr 1; omega) (by simp only [List.length_append]; omega)
      refine ⟨D ++ G1, G2, ?_, g2, g3, fun H h2 h3 => ?_, ?_⟩
      · have := d1.append g1
        simpa using this
      · rw [List.append_assoc]; exact nA.cons hD d2 (g4 H h2 h3)
      · have hb : (fun s : List α × Int × Int => mN cmp n1 (bs : Int) s.1 s.2.1 s.2.2) (F ++ (x ++ y ++ R), ((F.length : Nat) : Int), ((F.length + 2 * bs : Nat) : Int)) = some (.inl (F ++ D ++ R, (((F ++ D).length : Nat) : Int), (((F ++ D).length + 2 * bs : Nat) : Int))) := by
          show mN cmp n1 _ _ _ _ = _
          have : decide (((F.length + 2 * bs : Nat) : Int) ≤ n1) = true := by subst h1; simp; omega
          have w1 : IntKind.i64.wrap (((F.length : Nat) : Int) + (bs : Int)) = ((F.length + bs : Nat) : Int) := by rw [wr (by omega) (by omega)]; omega
          have w2 : IntKind.i64.wrap (2 * (bs : Int)) = 2 * (bs : Int) := wr (by omega) (by omega)
          have w3 : IntKind.i64.wrap (((F.length + 2 * bs : Nat) : Int) + 2 * (bs : Int)) = ((F.length + 2 * bs + 2 * bs : Nat) : Int) := by rw [wr (by omega) (by omega)]; omega
          simp only [mN, this, cond_true, w1, w2, w3, d3, Option.bind_some, List.length_append, hD]
        rw [eP hb, g5]
        simp only [List.length_append, List.append_assoc]
        congr 2
        congr 1; omega

theorem RO (C : Cmp ok le cmp) {d : List α} {bs : Nat} (hbs : 0 < bs) (hbs' : bs < d.length) (ho : Oks ok d) (hB : nA le bs d) (hl : d.length ≤ 1099511627776) :
    ∃ r, r.Perm d ∧ nA le (2 * bs) r ∧ jV cmp ((d.length : Nat) : Int) d (bs : Int) = some (.inl (r, ((2 * bs : Nat) : Int))) := by
  obtain ⟨G1, G2, g1, g2, g3, g4, g5⟩ := ZY C (n1 := ((d.length : Nat) : Int)) hbs (by omega) d.length [] d (Nat.le_refl _) ho hB (by simp) (by simpa using hl)
  have hlen := g1.length_eq
  simp only [List.length_append] at hlen
  have w2 : IntKind.i64.wrap (2 * (bs : Int)) = ((2 * bs : Nat) : Int) := by rw [wr (by omega) (by omega)]; omega
  have w4 : IntKind.i64.wrap ((bs : Int) * 2) = ((2 * bs : Nat) : Int) := by rw [wr (by omega) (by omega)]; omega
  have hlt : decide ((bs : Int) < ((d.length : Nat) : Int)) = true := by simp; omega
  simp only [List.nil_append, List.length_nil, Nat.zero_add, Int.natCast_zero] at g5
  have w1 : IntKind.i64.wrap (((G1.length : Nat) : Int) + (bs : Int)) = ((G1.length + bs : Nat) : Int) := by rw [wr (by omega) (by omega)]; omega
  by_cases hg : bs < G2.length
  · obtain ⟨x, y, rfl, x1, sx, hy⟩ := g3.split hg
    simp only [List.length_append] at g2 hg hlen
    have sy : Srt le y := hy.srt (by omega)
    have og : Oks ok (G1 ++ (x ++ y)) := ho.perm g1
    obtain ⟨D, d1, d2, d3⟩ := UX C (P := G1) (A := x) (B := y) (S := []) (d := G1 ++ (x ++ y)) (a := ((G1.length : Nat) : Int)) (m := ((G1.length + bs : Nat) : Int)) (b := ((d.length : Nat) : Int)) (by simp) (fun h => by rw [h] at x1; simp at x1; omega) (fun h => by rw [h] at hg; simp at hg; omega)
      (fun z hz => og z (by simp [hz])) (fun z hz => og z (by simp [hz])) sx sy rfl (by rw [x1]) (by congr 1; omega) (by simp only [List.length_append]; omega)
    refine ⟨G1 ++ D, ?_, ?_, ?_⟩
    · exact (d1.append_left G1).trans g1
    · exact g4 D (by rw [d1.length_eq]; simp only [List.length_append]; omega) d2
    · have hc : decide (((G1.length + bs : Nat) : Int) < ((d.length : Nat) : Int)) = true := by simp; omega
      simp only [jV, hlt, cond_true, w2, uN, g5, Option.bind_some, uL, w1, hc, d3, wU, w4]
      simp
  · refine ⟨G1 ++ G2, g1, g4 G2 (by omega) (g3.srt (by omega)), ?_⟩
    have hc : decide (((G1.length + bs : Nat) : Int) < ((d.length : Nat) : Int)) = false := by simp; omega
    simp only [jV, hlt, cond_true, w2, uN, g5, Option.bind_some, uL, w1, hc, cond_false, wU, w4]

theorem UP (C : Cmp ok le cmp) : ∀ (n : Nat) (d : List α) (bs : Nat), d.length - bs ≤ n → 0 < bs → Oks ok d → nA le bs d → d.length ≤ 1099511627776 →
    ∃ r, r.Perm d ∧ Srt le r ∧ lp (fun s : List α × Int => jV cmp ((d.length : Nat) : Int) s.1 s.2) (d, (bs : Int)) = some r := by
  have stop : ∀ (d : List α) (bs : Nat), d.length ≤ bs → nA le bs d → ∃ r, r.Perm d ∧ Srt le r ∧ lp (fun s : List α × Int => jV cmp ((d.length : Nat) : Int) s.1 s.2) (d, (bs : Int)) = some r := by
    intro d bs h hB
    refine ⟨d, List.Perm.refl _, hB.srt h, cK ?_⟩
    show jV cmp _ _ _ = _
    have : decide ((bs : Int) < ((d.length : Nat) : Int)) = false := by simp; omega
    simp only [jV, this, cond_false]
  intro n
  induction n with
  | zero => intro d bs hn _ _ hB _; exact stop d bs (by omega) hB
  | succ n ih =>
    intro d bs hn hbs ho hB hl
    by_cases h : d.length ≤ bs
    · exact stop d bs h hB
    · obtain ⟨r, r1, r2, r3⟩ := RO C hbs (by omega) ho hB hl
      obtain ⟨r', e1, e2, e3⟩ := ih r (2 * bs) (by rw [r1.length_eq]; omega) (by omega) (ho.perm r1) r2 (by rw [r1.length_eq]; exact hl)
      rw [r1.length_eq] at e3
      refine ⟨r', e1.trans r1, e2, ?_⟩
      rw [eP (show (fun s : List α × Int => jV cmp ((d.length : Nat) : Int) s.1 s.2) (d, (bs : Int)) = _ from r3)]
      exact e3

theorem KP (C : Cmp ok le cmp) {d : List α} (ho : Oks ok d) (hl : d.length ≤ 1099511627776) : ∃ r, r.Perm d ∧ Srt le r ∧ vF d ((d.length : Nat) : Int) cmp = some r := by
  obtain ⟨G1, G2, g1, g2, g3, g4⟩ := aAq C (n1 := ((d.length : Nat) : Int)) d.length [] d (Nat.le_refl _) ho (by simp) (by simpa using hl)
  have hlen := g1.length_eq
  simp only [List.length_append] at hlen
  have og := ho.perm g1
  obtain ⟨D, d1, d2, d3⟩ := UC C (P := G1) (A := G2) (T := []) (a := ((G1.length : Nat) : Int)) (b := ((d.length : Nat) : Int)) rfl (by congr 1; omega) (fun z hz => og z (by simp [hz])) (by simp only [List.length_append, List.length_nil]; omega)
  have hp : (G1 ++ D).Perm d := (d1.append_left G1).trans g1
  obtain ⟨r, r1, r2, r3⟩ := UP C (G1 ++ D).length (G1 ++ D) 20 (by omega) (by omega) (ho.perm hp) (g3 D (by rw [d1.length_eq]; omega) d2) (by rw [hp.length_eq]; exact hl)
  refine ⟨r, r1.trans hp, r2, ?_⟩
  simp only [List.nil_append, List.length_nil, Nat.zero_add, Int.natCast_zero] at g4
  unfold vF xB
  have g4' : lp (fun s : List α × Int × Int => mM cmp ((d.length : Nat) : Int) 20 s.1 s.2.1 s.2.2) (d, (0 : Int), (20 : Int)) = some (G1 ++ G2, ((G1.length : Nat) : Int)) := g4
  rw [g4']
  simp only [Option.bind_some, xE]
  rw [show G1 ++ G2 = G1 ++ G2 ++ [] by simp, d3]
  simp only [Option.bind_some, wX, List.append_nil]
  rw [hp.length_eq] at r3
  have r3' : lp (fun s : List α × Int => jV cmp ((d.length : Nat) : Int) s.1 s.2) (G1 ++ D, (20 : Int)) = some r := r3
  rw [r3']; rfl

end Go.Abs
namespace Go.Abs
open Go
def BQ (n : Int) : Bool := decide (n ≤ 1048576) && decide (-1048576 ≤ n)

theorem PY (n : Int) : uI n = some (BQ n) := rfl

def BL (last : Int) (j : aD) : Bool := decide (j.At ≤ last) || decide (1125899906842624 ≤ j.At) || decide (j.Net = 0) || !BQ j.Net

def chk (last : Int) : List aD → Bool
  | [] => true
  | j :: r => !BL last j && chk j.At r

def pM (f : List aD) : Bool := decide (f.length ≤ 1024) && chk (-2) f

theorem NC {f : List aD} {i : Nat} {a : aD} {last : Int} (ha : f[i]? = some a) (hl : f.length < 4611686018427387904) :
    mL f (f.length : Nat) last i = some (if BL last a then .inr (.inr false) else .inl (a.At, ((i + 1 : Nat) : Int))) := by
  obtain ⟨d1, d2, d3, d4⟩ := idx ha hl
  simp only [mL, d1, cond_true, bC d2, d3, d4, PY]
  unfold BL
  cases h : (decide (a.At ≤ last) || decide (1125899906842624 ≤ a.At) || decide (a.Net = 0)) <;> cases h2 : BQ a.Net <;> simp [hU]

theorem NR : ∀ (f : List aD) (last : Int), uP (fun last (j : aD) => some (if BL last j then .inr (.inr false) else .inl j.At)) (fun _ => (.inl () : Unit ⊕ Bool)) last f = some (if chk last f then .inl () else .inr false)
  | [], last => by simp [uP, chk]
  | j :: r, last => by
    cases h : BL last j
    · rw [RV (s' := j.At) (by simp [h])]
      rw [NR r j.At]
      simp [chk, h]
    · rw [SS (x := .inr false) (by simp [h])]
      simp [chk, h]

theorem UA (f : List aD) : rG f = some (pM f) := by
  unfold rG pM
  by_cases hl : f.length ≤ 1024
  · have h1 : decide ((1024 : Int) < ((f.length : Nat) : Int)) = false := by simp; omega
    rw [h1, cond_false]
    unfold wW
    have key := WS (l := f) (body := fun s : Int × Int => mL f (f.length : Nat) s.1 s.2) (fun last i => (last, i)) _ _
      (fun i a s ha => by
        constructor
        · intro s' hs
          show mL f (f.length : Nat) s i = _
          rw [NC ha (by omega)]
          split at hs <;> simp_all
        · intro x hs
          show mL f (f.length : Nat) s i = _
          rw [NC ha (by omega)]
          split at hs <;> simp_all)
      (fun s => by show mL f (f.length : Nat) s (f.length : Nat) = _; simp only [mL, jF, cond_false]) (NR f (-2))
    rw [key]
    cases h : chk (-2) f <;> simp [uM, hl]
  · have h1 : decide ((1024 : Int) < ((f.length : Nat) : Int)) = true := by simp; omega
    rw [h1, cond_true]
    simp [hl]

theorem oM {last : Int} {j : aD} : BL last j = false ↔ last < j.At ∧ j.At < 1125899906842624 ∧ j.Net ≠ 0 ∧ j.Net ≤ 1048576 ∧ -1048576 ≤ j.Net := by
  simp [BL, BQ]
  omega

def wN (last : Int) : List aD → Prop
  | [] => True
  | j :: r => (last < j.At ∧ j.At < 1125899906842624 ∧ j.Net ≠ 0 ∧ j.Net ≤ 1048576 ∧ -1048576 ≤ j.Net) ∧ wN j.At r

theorem QY : ∀ {f : List aD} {last : Int}, chk last f = true ↔ wN last f
  | [], last => by simp [chk, wN]
  | j :: r, last => by simp [chk, wN, oM, QY]

theorem vD {f : List aD} : pM f = true ↔ f.length ≤ 1024 ∧ wN (-2) f := by simp [pM, QY]

theorem wN.above : ∀ {f : List aD} {last : Int}, wN last f → ∀ j ∈ f, last < j.At ∧ j.At < 1125899906842624 ∧ j.Net ≠ 0 ∧ j.Net ≤ 1048576 ∧ -1048576 ≤ j.Net
  | [], _, _, j, hj => by simp at hj
  | a :: r, last, h, j, hj => by
    rcases List.mem_cons.1 hj with rfl | hj
    · exact h.1
    · have := h.2.above j hj
      have h1 := h.1.1
      exact ⟨by omega, this.2⟩

def val (f : List aD) (t : Int) : Int := (f.map fun j => if j.At ≤ t then j.Net else 0).sum

theorem vH (t : Int) : val [] t = 0 := rfl

theorem dO (j : aD) (r : List aD) (t : Int) : val (j :: r) t = (if j.At ≤ t then j.Net else 0) + val r t := by simp [val]

theorem wB (f g : List aD) (t : Int) : val (f ++ g) t = val f t + val g t := by simp [val]

theorem DT {f : List aD} {t : Int} (h : ∀ j ∈ f, t < j.At) : val f t = 0 := by
  induction f with
  | nil => rfl
  | cons j r ih =>
    rw [dO, ih (fun k hk => h k (List.mem_cons_of_mem _ hk))]
    have := h j (List.mem_cons_self ..)
    rw [if_neg (by omega)]; rfl

theorem YP (f : List aD) : rV f = some (if pM f then (f, 0) else ([], 7)) := by
  unfold rV
  rw [UA]
  cases h : pM f <;> simp

end Go.Abs
namespace Go.Abs
open Go
section both
variable {op : Int → Int → Option Int} {f g r : List aD} {out : List aD} {a b was t : Int} {j : aD}
end both
def emit (p v was : Int) : List aD := if v = was then [] else [⟨p, v - was⟩]

def wZ (was : Int) : List (Int × Int) → List aD
  | [] => []
  | x :: r => emit x.1 x.2 was ++ wZ x.2 r

def merge (f g : List aD) (a b : Int) : List (Int × Int × Int) :=
  match f, g with
  | [], [] => []
  | j :: f, [] => (j.At, a + j.Net, b) :: merge f [] (a + j.Net) b
  | [], k :: g => (k.At, a, b + k.Net) :: merge [] g a (b + k.Net)
  | j :: f, k :: g =>
    if j.At < k.At then (j.At, a + j.Net, b) :: merge f (k :: g) (a + j.Net) b
    else if k.At < j.At then (k.At, a, b + k.Net) :: merge (j :: f) g a (b + k.Net)
    else (j.At, a + j.Net, b + k.Net) :: merge f g (a + j.Net) (b + k.Net)

termination_by f.length + g.length
end Go.Abs
namespace Go.Abs
open Go
def comb (OP : Int → Int → Int) (f g : List aD) : List aD := wZ 0 ((merge f g 0 0).map fun x => (x.1, OP x.2.1 x.2.2))

def told (f : List aD) : List aD × Int := if pM f then (f, 0) else ([], 7)

theorem WW (f : List aD) : rV f = some (told f) := YP f

def two (OP : Int → Int → Int) (f g : List aD) : List aD × Int := if pM f && pM g then told (comb OP f g) else ([], 2)

end Go.Abs
namespace Go.Abs
open Go
theorem WO (p v was t : Int) : val (emit p v was) t = if p ≤ t then v - was else 0 := by
  unfold emit
  by_cases h : v = was
  · rw [if_pos h, vH, h]; split <;> omega
  · rw [if_neg h, dO, vH]; simp

end Go.Abs
namespace Go.Abs
open Go
def SA (f : List aD) : Int := (f.map aD.Net).sum

def JH (t : Int) : List aD → List aD
  | [] => []
  | j :: r => if t ≤ j.At then [] else j :: JH t r

def aft (t : Int) : List aD → List aD
  | [] => []
  | j :: r => if t ≤ j.At then j :: r else aft t r

def aAu (t : Int) (f : List aD) : List aD := JH t f ++ (if SA (JH t f) = 0 then [] else [⟨t, -SA (JH t f)⟩])

def ahead (f : List aD) (t : Int) : List aD × Int :=
  if pM f then (if 1125899906842624 ≤ t then (f, 0) else told (aAu t f)) else ([], 2)

end Go.Abs
namespace Go.Abs
open Go
def aAV (t : Int) (f : List aD) : List aD := (if SA (JH t f) = 0 then [] else [⟨-1, SA (JH t f)⟩]) ++ aft t f

def rest (f : List aD) (t : Int) : List aD × Int :=
  if pM f then (if 1125899906842624 ≤ t then ([], 0) else if t ≤ -1 then (f, 0) else told (aAV t f)) else ([], 2)

end Go.Abs
namespace Go.Abs
open Go
def Up (last : Int) : List aD → Prop
  | [] => True
  | j :: r => (last < j.At ∧ j.At < 1125899906842624 ∧ j.Net ≠ 0) ∧ Up j.At r

theorem Up.above : ∀ {f : List aD} {last : Int}, Up last f → ∀ j ∈ f, last < j.At ∧ j.At < 1125899906842624 ∧ j.Net ≠ 0
  | [], _, _, j, hj => by simp at hj
  | a :: r, last, h, j, hj => by
    rcases List.mem_cons.1 hj with rfl | hj
    · exact h.1
    · have := h.2.above j hj
      have h1 := h.1.1
      exact ⟨by omega, this.2⟩

theorem Up.DL {l t : Int} {f : List aD} (h : Up l f) (ht : t ≤ l) : val f t = 0 := DT fun j hj => by have := (h.above j hj).1; omega

theorem Up.weaken {a b : Int} {f : List aD} (h : Up b f) (hab : a ≤ b) : Up a f := by
  cases f with
  | nil => trivial
  | cons j r => exact ⟨⟨by have := h.1.1; omega, h.1.2⟩, h.2⟩

theorem wN.up : ∀ {f : List aD} {last : Int}, wN last f → Up last f
  | [], _, _ => trivial
  | _ :: _, _, h => ⟨⟨h.1.1, h.1.2.1, h.1.2.2.1⟩, h.2.up⟩

theorem Up.ext : ∀ {f g : List aD} {last : Int}, Up last f → Up last g → (∀ t, last < t → t < 1125899906842624 → val f t = val g t) → f = g
  | [], [], _, _, _, _ => rfl
  | j :: r, [], last, hf, _, h => by
    have := h j.At hf.1.1 hf.1.2.1
    rw [dO, if_pos (Int.le_refl _), hf.2.DL (Int.le_refl _), vH] at this
    exact absurd (by omega) hf.1.2.2
  | [], k :: s, last, _, hg, h => by
    have := h k.At hg.1.1 hg.1.2.1
    rw [dO, if_pos (Int.le_refl _), hg.2.DL (Int.le_refl _), vH] at this
    exact absurd (by omega) hg.1.2.2
  | j :: r, k :: s, last, hf, hg, h => by
    have h1 := h j.At hf.1.1 hf.1.2.1
    have h2 := h k.At hg.1.1 hg.1.2.1
    rw [dO, if_pos (Int.le_refl _), hf.2.DL (Int.le_refl _), dO] at h1
    rw [dO, dO k, if_pos (Int.le_refl _), hg.2.DL (Int.le_refl _)] at h2
    have n1 := hf.1.2.2
    have n2 := hg.1.2.2
    have he : j.At = k.At := by
      rcases Int.lt_trichotomy j.At k.At with h3 | h3 | h3
      · rw [if_neg (by omega), hg.2.DL (by omega)] at h1; omega
      · exact h3
      · rw [if_neg (by omega), hf.2.DL (by omega)] at h2; omega
    rw [if_pos (by omega), hg.2.DL (by omega)] at h1
    have hj : j = k := by
      obtain ⟨a, b⟩ := j; obtain ⟨c, d⟩ := k
      simp only at he h1
      simp only [Int.add_zero] at h1
      rw [he, h1]
    subst hj
    rw [hf.2.ext hg.2 (fun t ht ht' => by
      have := h t (by have := hf.1.1; omega) ht'
      rw [dO, dO] at this; omega)]

def Inc (last : Int) : List Int → Prop
  | [] => True
  | p :: r => (last < p ∧ p < 1125899906842624) ∧ Inc p r

theorem Inc.above : ∀ {ps : List Int} {last : Int}, Inc last ps → ∀ p ∈ ps, last < p ∧ p < 1125899906842624
  | [], _, _, j, hj => by simp at hj
  | a :: r, last, h, j, hj => by
    rcases List.mem_cons.1 hj with rfl | hj
    · exact h.1
    · have := h.2.above j hj
      have h1 := h.1.1
      exact ⟨by omega, this.2⟩

theorem CC : ∀ {l : List (Int × Int)} {last was : Int}, Inc last (l.map Prod.fst) → Up last (wZ was l)
  | [], _, _, _ => trivial
  | x :: r, last, was, h => by
    simp only [wZ]
    have ih : Up x.1 (wZ x.2 r) := CC h.2
    have h1 : last < x.1 ∧ x.1 < 1125899906842624 := h.1
    unfold emit
    split
    · exact ih.weaken (by omega)
    · exact ⟨⟨h1.1, h1.2, by simp only; omega⟩, ih⟩

theorem EH {F : Int → Int} : ∀ {ps : List Int} {last : Int}, Inc last ps → (∀ s t, last ≤ s → s ≤ t → t < 1125899906842624 → (∀ p ∈ ps, ¬ (s < p ∧ p ≤ t)) → F s = F t) →
    ∀ t, last ≤ t → t < 1125899906842624 → val (wZ (F last) (ps.map fun p => (p, F p))) t = F t - F last
  | [], last, _, hF, t, h1, h2 => by
    have := hF last t (Int.le_refl _) h1 h2 (by simp)
    simp [wZ, val, this]
  | p :: r, last, hi, hF, t, h1, h2 => by
    simp only [List.map_cons, wZ]
    rw [wB, WO]
    by_cases hp : p ≤ t
    · rw [if_pos hp, EH (F := F) hi.2 (fun s t' hs hst ht' hn => hF s t' (by have := hi.1.1; omega) hst ht' (fun q hq => by
        rcases List.mem_cons.1 hq with rfl | hq
        · omega
        · exact hn q hq)) t hp h2]
      omega
    · have := hF last t (Int.le_refl _) h1 h2 (fun q hq => by
        rcases List.mem_cons.1 hq with rfl | hq
        · omega
        · have := (hi.2.above q hq).1; omega)
      rw [if_neg hp, Up.DL (CC (last := p) (by rw [List.map_map]; simpa [Function.comp_def] using hi.2)) (by omega)]
      omega

theorem aAn {f : List aD} (h : pM f = true) : Up (-2) f := (vD.1 h).2.up

theorem WI {F : Int → Int} (h2 : F (-2) = 0) {ps : List Int} (hi : Inc (-2) ps) (hF : ∀ s t, -2 ≤ s → s ≤ t → t < 1125899906842624 → (∀ p ∈ ps, ¬ (s < p ∧ p ≤ t)) → F s = F t) {h : List aD} (hh : Up (-2) h) (hv : ∀ t, -2 < t → t < 1125899906842624 → val h t = F t) :
    wZ 0 (ps.map fun p => (p, F p)) = h := by
  refine (CC (by rw [List.map_map]; simpa [Function.comp_def] using hi)).ext hh fun t h3 h4 => ?_
  have := EH hi hF t (by omega) h4
  rw [h2] at this
  rw [this, hv t h3 h4]; omega

end Go.Abs
namespace Go.Abs
open Go
def zR (t : Int) : List Int → List Int
  | [] => [t]
  | p :: r => if p = t then p :: r else if t < p then t :: p :: r else p :: zR t r

theorem KQ {t x : Int} : ∀ {ps : List Int}, x ∈ zR t ps ↔ x = t ∨ x ∈ ps
  | [] => by simp [zR]
  | p :: r => by
    unfold zR
    split
    · rename_i h; subst h; simp
    · split
      · simp
      · simp only [List.mem_cons, KQ (ps := r)]; constructor <;> (intro h; rcases h with h | h | h <;> simp [h])

theorem JV {t : Int} : ∀ {ps : List Int} {last : Int}, Inc last ps → last < t → t < 1125899906842624 → Inc last (zR t ps)
  | [], last, _, h1, h2 => ⟨⟨h1, h2⟩, trivial⟩
  | p :: r, last, h, h1, h2 => by
    unfold zR
    split
    · exact h
    · split
      · rename_i h3 h4
        exact ⟨⟨h1, h2⟩, ⟨h4, h.1.2⟩, h.2⟩
      · exact ⟨h.1, JV h.2 (by omega) h2⟩

def IU (ps : List Int) (f : List aD) : List Int := f.foldl (fun ps j => zR j.At ps) ps

theorem GQ {x : Int} : ∀ {f : List aD} {ps : List Int}, x ∈ IU ps f ↔ x ∈ ps ∨ ∃ j ∈ f, j.At = x
  | [], ps => by simp [IU]
  | k :: r, ps => by
    have := GQ (x := x) (f := r) (ps := zR k.At ps)
    unfold IU at this ⊢
    rw [List.foldl_cons, this, KQ]
    constructor
    · rintro ((h | h) | ⟨j, h, h'⟩)
      · exact Or.inr ⟨k, List.mem_cons_self .., h.symm⟩
      · exact Or.inl h
      · exact Or.inr ⟨j, List.mem_cons_of_mem _ h, h'⟩
    · rintro (h | ⟨j, h, h'⟩)
      · exact Or.inl (Or.inr h)
      · rcases List.mem_cons.1 h with rfl | h
        · exact Or.inl (Or.inl h'.symm)
        · exact Or.inr ⟨j, h, h'⟩

theorem NG : ∀ {f : List aD} {ps : List Int} {last : Int}, Inc last ps → (∀ j ∈ f, last < j.At ∧ j.At < 1125899906842624) → Inc last (IU ps f)
  | [], _, _, h, _ => h
  | k :: r, ps, last, h, hf => by
    have hk := hf k (List.mem_cons_self ..)
    exact NG (f := r) (JV h hk.1 hk.2) fun j hj => hf j (List.mem_cons_of_mem _ hj)

end Go.Abs
namespace Go.Abs
open Go
def parts (v : Int) : List aD → List Int
  | [] => []
  | j :: r => (v + j.Net) :: parts (v + j.Net) r

theorem DW {s t : Int} (hst : s ≤ t) : ∀ {f : List aD}, (∀ j ∈ f, ¬ (s < j.At ∧ j.At ≤ t)) → val f s = val f t
  | [], _ => rfl
  | j :: r, h => by
    have hj := h j (List.mem_cons_self ..)
    rw [dO, dO, DW hst (fun k hk => h k (List.mem_cons_of_mem _ hk))]
    by_cases e : j.At ≤ s
    · rw [if_pos e, if_pos (by omega)]
    · rw [if_neg e, if_neg (by omega)]

theorem ZJ : pM [] = true := by decide

end Go.Abs
namespace Go.Abs
open Go
theorem w1 : IntKind.i64.wrap (0 + 1) = 1 := by rw [jL] <;> omega

theorem w2 : IntKind.i64.wrap (1 + 1) = 2 := by rw [jL] <;> omega

theorem w3 : IntKind.i64.wrap (1 - 1) = 0 := by rw [jL] <;> omega

theorem v0 : IntKind.i64.wrap 0 = 0 := by rw [jL] <;> omega

theorem v1 : IntKind.i64.wrap 1 = 1 := by rw [jL] <;> omega

theorem v2 : IntKind.i64.wrap 2 = 2 := by rw [jL] <;> omega

theorem v3 : IntKind.i64.wrap (-1) = -1 := by rw [jL] <;> omega

end Go.Abs
namespace Go.Abs
open Go
theorem VN (f : List aD) : (told f).1.length ≤ 1024 := by
  unfold told
  cases h : pM f
  · simp
  · simpa using (vD.1 h).1

end Go.Abs
namespace Go.Abs
theorem XG : @dM = @nH aD _ := rfl

theorem VA : @dU = @dY aD _ := rfl

theorem QO (cmp) : ∀ k, @gR cmp k = @eC aD _ cmp k
  | 0 => rfl
  | k + 1 => by
    show dU cmp _ = dY cmp _
    rw [QO cmp k, VA]

theorem WC : @eK = @oV aD _ := by
  funext d a m b cmp
  unfold eK oV
  simp only [QO]

theorem PO : @fG = @vF aD _ := by
  funext d n cmp
  unfold fG vF iP xB
  unfold iQ mM eZ xE
  unfold iC wX iB jV
  unfold iO uN iL mN
  unfold fA uL
  rw [WC, XG]
  rfl

end Go.Abs
namespace Go.Abs
open Go
variable {α : Type} [Inhabited α]
noncomputable def pF (f1 : α → Option Bool) (s0 : (List α)) (t7 : Int) (t8 : Int) : Option ((Int) ⊕ (Unit ⊕ Int)) :=
  cond (decide (t8 < t7))
  (bI (0 ≤ t8 ∧ t8 < ((List.length s0 : Nat) : Int)) <|
  (f1 (List.getD s0 (Int.toNat t8) default)).bind fun x2 =>
  cond x2
  (some (.inr (.inr t8)))
  (some (.inl (IntKind.i64.wrap (t8 + (1 : Int))))))
  (some (.inr (.inl ())))

theorem CG {l : List α} {f : α → Option Bool} {g : α → Bool} (hl : l.length ≤ 1099511627776) (hf : ∀ x ∈ l, f x = some (g x)) : ∀ (r : List α) (k : Nat), l.drop k = r → k ≤ l.length →
    ∃ x, lp (fun s => pF f l (l.length : Nat) s) (k : Int) = some x ∧ ((x = .inl () ∧ r.any g = false) ∨ (∃ i : Nat, x = .inr (i : Int) ∧ k ≤ i ∧ i < l.length ∧ r.any g = true ∧ g (l.getD i default) = true ∧ ∀ j, k ≤ j → j < i → g (l.getD j default) = false))
  | [], k, hd, hk => by
    have : k = l.length := by
      have := congrArg List.length hd
      simp only [List.length_drop, List.length_nil] at this; omega
    subst this
    refine ⟨.inl (), cK ?_, Or.inl ⟨rfl, rfl⟩⟩
    show pF f l _ _ = _
    simp only [pF, jF, cond_false]
  | a :: r, k, hd, hk => by
    obtain ⟨h1, h2⟩ := drop_cons hd
    have hlt : k < l.length := (List.getElem?_eq_some_iff.1 h1).1
    obtain ⟨d1, d2, d3, d4⟩ := idx h1 (by omega)
    have hga : l.getD k default = a := by rw [Int.toNat_natCast] at d3; exact d3
    have hb : (fun s => pF f l (l.length : Nat) s) (k : Int) = some (if g a then .inr (.inr (k : Int)) else .inl ((k + 1 : Nat) : Int)) := by
      show pF f l _ _ = _
      simp only [pF, d1, cond_true, bC d2, d3, d4, hf a (List.mem_of_getElem? h1), Option.bind_some]
      cases g a <;> simp
    cases hg : g a
    · rw [hg] at hb
      obtain ⟨x, e, hx⟩ := CG hl hf r (k + 1) h2 (by omega)
      refine ⟨x, by rw [eP hb]; exact e, ?_⟩
      rcases hx with ⟨rfl, h⟩ | ⟨i, rfl, h3, h4, h5, h6, h7⟩
      · exact Or.inl ⟨rfl, by simp [hg, h]⟩
      · refine Or.inr ⟨i, rfl, by omega, h4, by simp [h5], h6, fun j hj hj' => ?_⟩
        by_cases e : j = k
        · subst e; rw [hga, hg]
        · exact h7 j (by omega) hj'
    · rw [hg] at hb
      exact ⟨.inr (k : Int), cK hb, Or.inr ⟨k, rfl, Nat.le_refl _, hlt, by simp [hg], by rw [hga, hg], fun j h h' => by omega⟩⟩

end Go.Abs
namespace Go.Abs
open Go
theorem EI {l : List aD} {f : aD → Option Bool} {g : aD → Bool} (hl : l.length ≤ 1099511627776) (hf : ∀ x ∈ l, f x = some (g x)) : cM l f = some (l.any g) := by
  unfold cM fP fN
  obtain ⟨x, e, hx⟩ := CG hl hf l 0 rfl (Nat.zero_le _)
  have e' : lp (fun s => fJ f l (l.length : Nat) s) 0 = some x := e
  rw [e']
  rcases hx with ⟨rfl, h⟩ | ⟨i, rfl, _, _, h, _⟩
  · simp [dR, h]
  · simp [h]

def sY (j : aD) : Bool := !BQ j.Net

def xR (j : aD) : Bool := decide (j.At < -1) || decide (1125899906842624 < j.At)

def vP (l : List aD) : List aD := wZ 0 ((IU [] (l.filter fun j => decide (j.At < 1125899906842624))).map fun p => (p, val l p))

def jM (l : List aD) : List aD × Int := if l.any sY then ([], 2) else if l.any xR then ([], 13) else told (vP l)

def xU (p n : Int) : List aD := if n ≠ 0 ∧ p < 1125899906842624 then [⟨p, n⟩] else []

def uA (p n : Int) : List aD → List aD
  | [] => xU p n
  | j :: r => if j.At = p then uA p (n + j.Net) r else xU p n ++ uA j.At j.Net r

def grp : List aD → List aD
  | [] => []
  | j :: r => uA j.At j.Net r

abbrev MS (a b : aD) : Prop := a.At ≤ b.At

theorem GD {t : Int} (ht : t < 1125899906842624) : ∀ {r : List aD} {p n : Int}, val (uA p n r) t = (if p ≤ t then n else 0) + val r t
  | [], p, n => by
    unfold uA xU
    split
    · rw [dO, vH]
    · rw [vH]; split <;> omega
  | j :: r, p, n => by
    unfold uA
    split
    · rename_i h
      rw [GD ht, dO, h]; split <;> omega
    · rw [wB, GD ht, dO]
      have : val (xU p n) t = if p ≤ t then n else 0 := by
        unfold xU
        split
        · rw [dO, vH]; simp
        · rw [vH]; split <;> omega
      rw [this]

theorem ZF {t : Int} (ht : t < 1125899906842624) : ∀ {r : List aD}, val (grp r) t = val r t
  | [] => rfl
  | j :: r => by unfold grp; rw [GD ht, dO]

theorem IV : ∀ {r : List aD} {p n last : Int}, last < p → (∀ j ∈ r, p ≤ j.At) → Srt MS r → Up last (uA p n r)
  | [], p, n, last, h, _, _ => by
    unfold uA xU
    split
    · rename_i h'; exact ⟨⟨h, h'.2, h'.1⟩, trivial⟩
    · trivial
  | j :: r, p, n, last, h, hp, hs => by
    have hj := hp j (by simp)
    have hs' := List.pairwise_cons.1 hs
    unfold uA
    split
    · exact IV h (fun k hk => hp k (by simp [hk])) hs'.2
    · have ih : Up p (uA j.At j.Net r) := IV (by omega) (fun k hk => hs'.1 k hk) hs'.2
      unfold xU
      split
      · rename_i h'; exact ⟨⟨h, h'.2, h'.1⟩, ih⟩
      · exact ih.weaken (by omega)

theorem aAC {r : List aD} (h : ∀ j ∈ r, -2 < j.At) (hs : Srt MS r) : Up (-2) (grp r) := by
  cases r with
  | nil => trivial
  | cons j r =>
    have hs' := List.pairwise_cons.1 hs
    exact IV (h j (by simp)) (fun k hk => hs'.1 k hk) hs'.2

theorem NL {l out : List aD} (hl : l.length ≤ 1099511627776) (hb : ∀ j ∈ l, j.Net ≤ 1048576 ∧ -1048576 ≤ j.Net) : ∀ (r : List aD) (k : Nat) (p n : Int), l.drop k = r → k ≤ l.length → n ≤ 1048576 * k → -(1048576 * k) ≤ n →
    ∃ n' k', k ≤ k' ∧ k' ≤ l.length ∧ uA p n r = xU p n' ++ grp (l.drop k') ∧ lp (fun s : List aD × List aD × Int × aD => jU s.1 s.2.1 s.2.2.1 s.2.2.2) (l, out, (k : Int), ⟨p, n⟩) = some (l, out, ((k' : Nat) : Int), ⟨p, n'⟩) ∧ (∀ j r', r = j :: r' → j.At = p → k < k')
  | [], k, p, n, hd, hk, _, _ => by
    have : k = l.length := by
      have := congrArg List.length hd
      simp only [List.length_drop, List.length_nil] at this; omega
    subst this
    refine ⟨n, l.length, Nat.le_refl _, Nat.le_refl _, by simp [uA, grp], cK ?_, fun j r' h => by cases h⟩
    show jU _ _ _ _ = _
    simp only [jU, jF, Bool.false_and, cond_false]
    exact bC (fun h => by cases h)
  | a :: r, k, p, n, hd, hk, h1, h2 => by
    obtain ⟨e1, e2⟩ := drop_cons hd
    have hlt : k < l.length := (List.getElem?_eq_some_iff.1 e1).1
    obtain ⟨d1, d2, d3, d4⟩ := idx e1 (by omega)
    have ha := hb a (List.mem_of_getElem? e1)
    by_cases h : a.At = p
    · have hw : IntKind.i64.wrap (n + a.Net) = n + a.Net := jL (by omega) (by omega)
      obtain ⟨n', k', k1, k2, k3, k4, _⟩ := NL hl hb r (k + 1) p (n + a.Net) e2 (by omega) (by omega) (by omega) (out := out)
      refine ⟨n', k', by omega, k2, by simp [uA, h, k3], ?_, fun _ _ _ _ => by omega⟩
      have hb : (fun s : List aD × List aD × Int × aD => jU s.1 s.2.1 s.2.2.1 s.2.2.2) (l, out, (k : Int), ⟨p, n⟩) = some (.inl (l, out, ((k + 1 : Nat) : Int), ⟨p, n + a.Net⟩)) := by
        show jU _ _ _ _ = _
        simp only [jU, d1, Bool.true_and, d3, d4, h, decide_true, cond_true, hw]
        rw [bC (fun _ => d2), bC d2]
      rw [eP hb, k4]
    · refine ⟨n, k, Nat.le_refl _, hk, ?_, cK ?_, fun j r' he hp => ?_⟩
      · rw [hd]; simp [uA, h, grp]
      · show jU _ _ _ _ = _
        simp only [jU, d1, Bool.true_and, d3, h, decide_false, cond_false]
        exact bC (fun _ => d2)
      · cases he; exact absurd hp h

theorem WU {l : List aD} (hl : l.length ≤ 1099511627776) (hb : ∀ j ∈ l, j.Net ≤ 1048576 ∧ -1048576 ≤ j.Net) : ∀ (m k : Nat) (out : List aD), l.length - k ≤ m → k ≤ l.length → out.length ≤ k →
    lp (fun s : List aD × List aD × Int => lS s.1 s.2.1 s.2.2) (l, out, (k : Int)) = some (out ++ grp (l.drop k)) := by
  have stop : ∀ out, lp (fun s : List aD × List aD × Int => lS s.1 s.2.1 s.2.2) (l, out, ((l.length : Nat) : Int)) = some (out ++ grp (l.drop l.length)) := by
    intro out
    refine cK ?_
    show lS _ _ _ = _
    simp only [lS, jF, cond_false]
    simp [grp]
  intro m
  induction m with
  | zero =>
    intro k out hm hk _
    have : k = l.length := by omega
    subst this; exact stop out
  | succ m ih =>
    intro k out hm hk ho
    by_cases he : k = l.length
    · subst he; exact stop out
    · have hlt : k < l.length := by omega
      have hd : l.drop k = l[k] :: l.drop (k + 1) := List.drop_eq_getElem_cons hlt
      obtain ⟨d1, d2, d3, d4⟩ := idx (List.getElem?_eq_getElem hlt) (by omega)
      obtain ⟨n', k', k1, k2, k3, k4, k5⟩ := NL hl hb (l.drop k) k l[k].At 0 rfl hk (by omega) (by omega) (out := out)
      have hk' := k5 _ _ hd rfl
      have hbod : (fun s : List aD × List aD × Int => lS s.1 s.2.1 s.2.2) (l, out, (k : Int)) = some (.inl (l, out ++ xU l[k].At n', ((k' : Nat) : Int))) := by
        show lS _ _ _ = _
        simp only [lS, d1, cond_true, bC d2, d3, wA, k4, Option.bind_some, tH]
        unfold xU
        by_cases c : n' ≠ 0 ∧ l[k].At < 1125899906842624
        · have hc : (!decide (n' = 0) && decide (l[k].At < 1125899906842624)) = true := by simp [c]
          rw [hc, cond_true, if_pos c, bC (by simp only [List.length_cons, List.length_nil]; omega)]
        · have hc : (!decide (n' = 0) && decide (l[k].At < 1125899906842624)) = false := by
            rw [Bool.eq_false_iff]; intro h; apply c; simpa using h
          rw [hc, cond_false, if_neg c]; simp
      have hfl : (xU l[k].At n').length ≤ 1 := by unfold xU; split <;> simp
      rw [eP hbod, ih k' _ (by omega) k2 (by simp only [List.length_append]; omega)]
      have hg : grp (l.drop k) = uA l[k].At 0 (l.drop k) := by rw [hd]; simp [grp, uA]
      rw [hg, k3]; simp

theorem YD (a b : aD) : mX a b = some (if a.At < b.At then -1 else if b.At < a.At then 1 else 0) := by
  unfold mX jG oF
  by_cases h1 : a.At < b.At
  · simp [h1]
  · by_cases h2 : b.At < a.At <;> simp [h1, h2]

theorem aA3 : Cmp (fun _ => True) MS (fun y0 y1 => mX y0 y1) where
  ans x y _ _ := ⟨_, YD x y, by unfold MS; split <;> (try split) <;> omega⟩
  trans x y z _ _ _ h1 h2 := Int.le_trans h1 h2
  total x y _ _ := Int.le_total x.At y.At

theorem aAR {l : List aD} (hl : l.length ≤ 1099511627776) : ∃ r, r.Perm l ∧ Srt MS r ∧ cX l (fun y0 y1 => mX y0 y1) = some r := by
  obtain ⟨r, r1, r2, r3⟩ := KP aA3 (d := l) (fun _ _ => trivial) hl
  refine ⟨r, r1, r2, ?_⟩
  unfold cX
  rw [PO, r3]; rfl

theorem LZ {f g : List aD} (h : f.Perm g) (t : Int) : val f t = val g t := by
  induction h with
  | nil => rfl
  | cons x _ ih => rw [dO, dO, ih]
  | swap x y l => rw [dO, dO, dO, dO]; omega
  | trans _ _ ih1 ih2 => rw [ih1, ih2]

theorem SG {l : List aD} (h : l.any sY = false) : ∀ j ∈ l, j.Net ≤ 1048576 ∧ -1048576 ≤ j.Net := by
  intro j hj
  have := List.any_eq_false.1 h j hj
  simp [sY, BQ] at this
  omega

theorem wO {l : List aD} (h : l.any xR = false) : ∀ j ∈ l, -2 < j.At ∧ j.At ≤ 1125899906842624 := by
  intro j hj
  have := List.any_eq_false.1 h j hj
  simp [xR] at this
  omega

theorem DF {l : List aD} (ht : ∀ j ∈ l, -2 < j.At) : Inc (-2) (IU [] (l.filter fun j => decide (j.At < 1125899906842624))) :=
  NG (ps := []) (show Inc (-2) [] from trivial) fun j hj => by
    obtain ⟨h1, h2⟩ := List.mem_filter.1 hj
    exact ⟨ht j h1, by simpa using h2⟩

theorem HA {l h : List aD} (ht : ∀ j ∈ l, -2 < j.At) (hh : Up (-2) h) (hv : ∀ t, -2 < t → t < 1125899906842624 → val h t = val l t) : vP l = h := by
  refine WI (F := val l) (DT fun j hj => ht j hj) (DF ht) ?_ hh hv
  intro s t _ hst h2 hn
  exact DW hst fun j hj hc => hn j.At (GQ.2 (Or.inr ⟨j, List.mem_filter.2 ⟨hj, by simp; omega⟩, rfl⟩)) hc

theorem norm_eq {l : List aD} (hl : l.length ≤ 1099511627776) : uE l = some (jM l) := by
  unfold uE jM
  rw [EI (g := sY) hl (fun x _ => by simp [rM, PY, sY])]
  simp only [Option.bind_some]
  cases h1 : l.any sY
  · rw [EI (f := fun y0 => rP y0) (g := xR) hl (fun x _ => rfl)]
    simp only [cond_false, Option.bind_some, Bool.false_eq_true, if_false]
    cases h2 : l.any xR
    · simp only [cond_false, Bool.false_eq_true, if_false]
      have hc : eX l = some l := by unfold eX; exact bC ⟨by omega, by omega⟩
      obtain ⟨r, r1, r2, r3⟩ := aAR hl
      rw [hc]
      simp only [Option.bind_some]
      rw [r3]
      simp only [Option.bind_some, wC]
      have hlr : r.length ≤ 1099511627776 := by rw [r1.length_eq]; exact hl
      have := WU hlr (fun j hj => SG h1 j (r1.mem_iff.1 hj)) r.length 0 [] (by omega) (by omega) (by simp)
      simp only [Int.natCast_zero, List.drop_zero, List.nil_append] at this
      rw [this]
      simp only [Option.bind_some, tB, WW]
      rw [HA (fun j hj => (wO h2 j hj).1) (aAC (fun j hj => (wO h2 j (r1.mem_iff.1 hj)).1) r2) (fun t _ ht => by rw [ZF ht, LZ r1])]
    · simp
  · simp

end Go.Abs
namespace Go.Abs
open Go
theorem KF (x y : ByteArray) : oN x y = decide (x = y) := by
  unfold oN
  rw [ByteArray.toList_eq, ByteArray.toList_eq]
  by_cases h : x = y
  · simp [h]
  · have : x.data.toList ≠ y.data.toList := by
      intro he
      apply h
      cases x; cases y
      congr 1
      exact Array.toList_inj.1 he
    have h2 : (x.data.toList == y.data.toList) = false := by simpa using this
    rw [h2]; simp [h]

theorem veq (a b : aH) : ((decide (a.Kind = b.Kind)) && ((decide (a.Num = b.Num)) && ((oN a.Text b.Text) && true))) = decide (a = b) := by
  rw [KF]
  obtain ⟨a1, a2, a3⟩ := a
  obtain ⟨b1, b2, b3⟩ := b
  by_cases h1 : a1 = b1 <;> by_cases h2 : a2 = b2 <;> by_cases h3 : a3 = b3 <;> simp [h1, h2, h3]

def BW (v : aH) : Bool := decide (v.Kind = 1) && oN v.Text (⟨#[]⟩ : ByteArray)

def CB (v : aH) : Bool := ((decide (v.Kind = 2)) && (decide (v.Num = 0))) && (decide (((ByteArray.size v.Text : Nat) : Int) ≤ 64))

def CU (v : aH) : Bool := BW v || CB v

def pT (r : List aH) : Bool := decide (r.length ≤ 8) && r.all CU

theorem of_eq (v : aH) : lT v = some (if BW v then (.k_number v.Num, true) else if CB v then (.k_words v.Text, true) else (.none_, false)) := by
  unfold lT BW CB
  cases (decide (v.Kind = 1) && oN v.Text (⟨#[]⟩ : ByteArray)) <;> cases (((decide (v.Kind = 2)) && (decide (v.Num = 0))) && (decide (((ByteArray.size v.Text : Nat) : Int) ≤ 64))) <;> rfl

theorem YY (v : aH) : uD v = some (CU v) := by
  unfold uD CU
  rw [of_eq]
  cases BW v <;> cases CB v <;> rfl

theorem MB {l : List aH} {f : aH → Option Bool} {g : aH → Bool} (hl : l.length ≤ 1099511627776) (hf : ∀ x ∈ l, f x = some (g x)) : dF l f = some (l.any g) := by
  unfold dF fO fK
  obtain ⟨x, e, hx⟩ := CG hl hf l 0 rfl (Nat.zero_le _)
  have e' : lp (fun s => fM f l (l.length : Nat) s) 0 = some x := e
  rw [e']
  rcases hx with ⟨rfl, h⟩ | ⟨i, rfl, _, _, h, _⟩
  · simp [dP, h]
  · simp [h]

theorem FB (r : List aH) : qY r = some (pT r) := by
  unfold qY pT
  by_cases h : r.length ≤ 8
  · have h1 : decide ((8 : Int) < ((r.length : Nat) : Int)) = false := by simp; omega
    rw [h1, cond_false, MB (g := fun v => !CU v) (by omega) (fun x _ => by simp [uG, YY])]
    simp only [Option.bind_some, h, decide_true, Bool.true_and]
    congr 1
    rw [List.all_eq_not_any_not]
  · have h1 : decide ((8 : Int) < ((r.length : Nat) : Int)) = true := by simp; omega
    rw [h1, cond_true]
    simp [h]

theorem LP {α : Type} [DecidableEq α] {f g : List α} {body : Int → Option (Int ⊕ (Unit ⊕ Bool))} (he : f.length = g.length)
    (hb : ∀ (i : Nat) a b, f[i]? = some a → g[i]? = some b → body i = some (if a = b then .inl ((i + 1 : Nat) : Int) else .inr (.inr false)))
    (hend : body (f.length : Nat) = some (.inr (.inl ()))) : ∀ (m k : Nat), f.length - k = m → k ≤ f.length → lp body (k : Int) = some (if f.drop k = g.drop k then .inl () else .inr false)
  | 0, k, hm, hk => by
    have : k = f.length := by omega
    subst this
    rw [List.drop_length, he, List.drop_length, if_pos rfl]
    rw [← he]
    exact cK hend
  | m + 1, k, hm, hk => by
    have h1 : k < f.length := by omega
    have h2 : k < g.length := by omega
    have hbk := hb k _ _ (List.getElem?_eq_getElem h1) (List.getElem?_eq_getElem h2)
    have e1 : f.drop k = f[k] :: f.drop (k + 1) := List.drop_eq_getElem_cons h1
    have e2 : g.drop k = g[k] :: g.drop (k + 1) := List.drop_eq_getElem_cons h2
    have hiff : (f.drop k = g.drop k) ↔ (f[k] = g[k] ∧ f.drop (k + 1) = g.drop (k + 1)) := by rw [e1, e2, List.cons.injEq]
    by_cases h : f[k] = g[k]
    · rw [if_pos h] at hbk
      rw [eP hbk, LP he hb hend m (k + 1) (by omega) (by omega)]
      simp only [hiff, h, true_and]
    · rw [if_neg h] at hbk
      rw [cK hbk]
      simp only [hiff, h, false_and, if_false]

theorem NP {α : Type} {f g : List α} (h : f.length ≠ g.length) : (!decide (((f.length : Nat) : Int) = ((g.length : Nat) : Int))) = true := by simp; omega

theorem LV {α : Type} {f g : List α} (h : f.length = g.length) : (!decide (((f.length : Nat) : Int) = ((g.length : Nat) : Int))) = false := by simp [h]

theorem RR (a b : List aH) (hl : a.length ≤ 17592186044416) : vT a b = some (decide (a = b)) := by
  unfold vT iN
  by_cases he : a.length = b.length
  · rw [LV he, cond_false]
    unfold hM
    have := LP (f := a) (g := b) (body := fun s => dH a b (a.length : Nat) s) he ?_ ?_ a.length 0 rfl (Nat.zero_le _)
    · simp only [Int.natCast_zero, List.drop_zero] at this
      rw [this]
      by_cases h : a = b <;> simp [h, eN]
    · intro i x y hx hy
      obtain ⟨d1, d2, d3, d4⟩ := idx hx (by omega)
      obtain ⟨_, e2, e3, _⟩ := idx hy (by omega)
      simp only [dH, d1, cond_true, bC d2, bC e2, d3, e3, d4, veq]
      by_cases h : x = y <;> simp [h]
    · simp only [dH, jF, cond_false]
  · rw [NP he, cond_true]
    have : a ≠ b := fun h => he (by rw [h])
    simp [this]

theorem KS (a b : List aH) (hl : a.length ≤ 17592186044416) : tK a b = some (decide (a = b)) := by
  unfold tK
  by_cases he : a.length = b.length
  · rw [LV he, cond_false]
    unfold uO
    have := LP (f := a) (g := b) (body := fun s => pX a b s) he ?_ ?_ a.length 0 rfl (Nat.zero_le _)
    · simp only [Int.natCast_zero, List.drop_zero] at this
      rw [this]
      by_cases h : a = b <;> simp [h, rS]
    · intro i x y hx hy
      obtain ⟨d1, d2, d3, d4⟩ := idx hx (by omega)
      obtain ⟨_, e2, e3, _⟩ := idx hy (by omega)
      simp only [pX, d1, cond_true, bC d2, bC e2, d3, e3, d4, veq]
      by_cases h : x = y <;> simp [h]
    · simp only [pX, jF, cond_false]
  · rw [NP he, cond_true]
    have : a ≠ b := fun h => he (by rw [h])
    simp [this]

structure EA {α : Type} (c : α → α → Int) : Prop where
  eq : ∀ a b, c a b = 0 ↔ a = b
  anti : ∀ a b, c a b < 0 ↔ 0 < c b a
  trans : ∀ a b d, c a b < 0 → c b d < 0 → c a d < 0

def qG (x y : Int) : Int := if x < y then -1 else if y < x then 1 else 0

theorem yY : EA qG where
  eq a b := by unfold qG; (repeat' split) <;> omega
  anti a b := by unfold qG; (repeat' split) <;> omega
  trans a b d := by unfold qG; (repeat' split) <;> omega

def lQ {α : Type} [DecidableEq α] (c : α → α → Int) : List α → List α → Int
  | [], [] => 0
  | [], _ :: _ => -1
  | _ :: _, [] => 1
  | a :: r, b :: s => if a = b then lQ c r s else c a b

theorem EA.list {α : Type} [DecidableEq α] {c : α → α → Int} (h : EA c) : EA (lQ c) where
  eq := by
    intro a
    induction a with
    | nil => intro b; cases b <;> simp [lQ]
    | cons x r ih =>
      intro b
      cases b with
      | nil => simp [lQ]
      | cons y s =>
        unfold lQ
        split
        · rename_i e; subst e; rw [ih]; simp
        · rename_i e
          have := h.eq x y
          constructor
          · intro h0; exact absurd (this.1 h0) e
          · intro h0; cases h0; exact absurd rfl e
  anti := by
    intro a
    induction a with
    | nil => intro b; cases b <;> simp [lQ]
    | cons x r ih =>
      intro b
      cases b with
      | nil => simp [lQ]
      | cons y s =>
        unfold lQ
        by_cases e : x = y
        · subst e; simp only [if_true]; exact ih s
        · rw [if_neg e, if_neg (fun e' => e e'.symm)]; exact h.anti x y
  trans := by
    intro a
    induction a with
    | nil =>
      intro b d
      cases b <;> cases d <;> simp [lQ]
    | cons x r ih =>
      intro b d
      cases b with
      | nil => simp [lQ]
      | cons y s =>
        cases d with
        | nil => simp [lQ]
        | cons z t =>
          unfold lQ
          by_cases e1 : x = y
          · subst e1
            rw [if_pos rfl]
            by_cases e2 : x = z
            · subst e2; rw [if_pos rfl, if_pos rfl]; exact ih s t
            · rw [if_neg e2, if_neg e2]; exact fun _ h => h
          · rw [if_neg e1]
            by_cases e2 : y = z
            · have hz : ¬ x = z := fun e => e1 (e.trans e2.symm)
              intro h _
              rw [if_neg hz, ← e2]; exact h
            · rw [if_neg e2]
              intro h1 h2
              by_cases e3 : x = z
              · subst e3
                have h3 := (h.anti x y).1 h1
                omega
              · rw [if_neg e3]; exact h.trans x y z h1 h2

def GV (a b : UInt8) : Int := if a < b then -1 else if b < a then 1 else 0

theorem GH : EA GV where
  eq a b := by
    unfold GV
    constructor
    · intro h
      split at h
      · cases h
      · split at h
        · cases h
        · rename_i h1 h2
          rw [UInt8.lt_iff_toNat_lt] at h1 h2
          exact UInt8.toNat_inj.1 (by omega)
    · rintro rfl
      have : ¬ a < a := by rw [UInt8.lt_iff_toNat_lt]; omega
      simp [this]
  anti a b := by
    unfold GV
    simp only [UInt8.lt_iff_toNat_lt]
    (repeat' split) <;> omega
  trans a b d := by
    unfold GV
    simp only [UInt8.lt_iff_toNat_lt]
    (repeat' split) <;> omega

theorem AA : ∀ (a b : List UInt8), Go.Lib.compareBytes a b = lQ GV a b
  | [], [] => rfl
  | [], _ :: _ => rfl
  | _ :: _, [] => rfl
  | a :: r, b :: s => by
    unfold Go.Lib.compareBytes lQ
    rw [AA r s]
    by_cases e : a = b
    · subst e
      have : ¬ a < a := by rw [UInt8.lt_iff_toNat_lt]; omega
      simp [this]
    · rw [if_neg e]
      unfold GV
      have : ¬ (¬ a < b ∧ ¬ b < a) := by
        rintro ⟨h1, h2⟩
        rw [UInt8.lt_iff_toNat_lt] at h1 h2
        exact e (UInt8.toNat_inj.1 (by omega))
      by_cases h1 : a < b
      · simp [h1]
      · have h2 : b < a := Classical.byContradiction fun h2 => this ⟨h1, h2⟩
        simp [h1, h2]

def NF (a b : ByteArray) : Int := lQ GV a.data.toList b.data.toList

theorem ZV (a b : ByteArray) : JL a b = NF a b := AA _ _

theorem data_inj {x y : ByteArray} (h : x.data.toList = y.data.toList) : x = y := by
  cases x; cases y
  congr 1
  exact Array.toList_inj.1 h

theorem CD : EA NF where
  eq a b := by unfold NF; rw [(GH.list).eq]; exact ⟨data_inj, fun h => by rw [h]⟩
  anti a b := (GH.list).anti _ _
  trans a b d := (GH.list).trans _ _ _

def yS (a b : aH) : Int := if a.Kind = b.Kind then (if a.Num = b.Num then NF a.Text b.Text else qG a.Num b.Num) else qG a.Kind b.Kind

theorem VQ : EA yS where
  eq a b := by
    obtain ⟨a1, a2, a3⟩ := a
    obtain ⟨b1, b2, b3⟩ := b
    unfold yS
    simp only [aH.mk.injEq]
    by_cases h1 : a1 = b1
    · by_cases h2 : a2 = b2
      · simp [h1, h2, CD.eq]
      · simp [h1, h2, yY.eq]
    · simp [h1, yY.eq]
  anti a b := by
    unfold yS
    by_cases h1 : a.Kind = b.Kind
    · rw [if_pos h1, if_pos h1.symm]
      by_cases h2 : a.Num = b.Num
      · rw [if_pos h2, if_pos h2.symm]; exact CD.anti _ _
      · rw [if_neg h2, if_neg (fun h => h2 h.symm)]; exact yY.anti _ _
    · rw [if_neg h1, if_neg (fun h => h1 h.symm)]; exact yY.anti _ _
  trans a b d := by
    unfold yS
    intro h1 h2
    have lt : ∀ {x y : Int}, qG x y < 0 → x < y := fun {x y} h => by unfold qG at h; split at h <;> (try split at h) <;> omega
    have mk : ∀ {x y : Int}, x < y → qG x y < 0 := fun {x y} h => by unfold qG; rw [if_pos h]; omega
    by_cases e1 : a.Kind = b.Kind
    · rw [if_pos e1] at h1
      by_cases e2 : b.Kind = d.Kind
      · rw [if_pos e2] at h2
        rw [if_pos (e1.trans e2)]
        by_cases f1 : a.Num = b.Num
        · rw [if_pos f1] at h1
          by_cases f2 : b.Num = d.Num
          · rw [if_pos f2] at h2
            rw [if_pos (f1.trans f2)]
            exact CD.trans _ _ _ h1 h2
          · rw [if_neg f2] at h2
            rw [f1, if_neg f2]; exact h2
        · rw [if_neg f1] at h1
          have g1 := lt h1
          by_cases f2 : b.Num = d.Num
          · rw [← f2, if_neg f1]; exact h1
          · rw [if_neg f2] at h2
            have g2 := lt h2
            rw [if_neg (by omega)]
            exact mk (by omega)
      · rw [if_neg e2] at h2
        rw [e1, if_neg e2]; exact h2
    · rw [if_neg e1] at h1
      have g1 := lt h1
      by_cases e2 : b.Kind = d.Kind
      · rw [← e2, if_neg e1]; exact h1
      · rw [if_neg e2] at h2
        have g2 := lt h2
        rw [if_neg (by omega)]
        exact mk (by omega)

def jJ (a b : List aH) : Int := lQ yS a b

theorem jQ : EA jJ := VQ.list

end Go.Abs
namespace Go.Abs
open Go
theorem JO (x y : Int) : jG x y = some (qG x y) := by
  unfold jG oF qG
  by_cases h1 : x < y
  · simp [h1]
  · by_cases h2 : y < x <;> simp [h1, h2]

theorem US (x y : Int) : eB x y = some (qG x y) := by
  unfold eB jS qG
  by_cases h1 : x < y
  · simp [h1]
  · by_cases h2 : y < x <;> simp [h1, h2]

theorem FF {v : aH} (h : BW v = true) : v.Kind = 1 ∧ v.Text = (⟨#[]⟩ : ByteArray) := by
  simp only [BW, KF, Bool.and_eq_true, decide_eq_true_eq] at h; exact h

theorem CK {v : aH} (h : CB v = true) : v.Kind = 2 ∧ v.Num = 0 ∧ v.Text.size ≤ 64 := by
  simp only [CB, Bool.and_eq_true, decide_eq_true_eq] at h; exact ⟨h.1.1, h.1.2, by omega⟩

theorem QF {v : aH} (h : CU v = true) : BW v = true ∨ (BW v = false ∧ CB v = true) := by
  unfold CU at h
  cases hn : BW v
  · rw [hn] at h; exact .inr ⟨rfl, by simpa using h⟩
  · exact .inl rfl

theorem TV (a : ByteArray) : NF a a = 0 := (CD.eq a a).2 rfl

theorem EB (a : Int) : qG a a = 0 := (yY.eq a a).2 rfl

theorem VI {a b : aH} (ha : CU a = true) (hb : CU b = true) : qC a b = some (yS a b) := by
  unfold qC
  simp only [of_eq, Option.bind_some]
  rcases QF ha with h1 | ⟨h1, h1'⟩ <;> rcases QF hb with h2 | ⟨h2, h2'⟩
  · obtain ⟨k1, t1⟩ := FF h1
    obtain ⟨k2, t2⟩ := FF h2
    simp only [h1, h2, if_true, Bool.not_true, Bool.or_self, cond_false, US, Option.bind_some]
    unfold yS
    rw [k1, k2, t1, t2, if_pos rfl, TV]
    by_cases hn : a.Num = b.Num
    · rw [if_pos hn, hn, EB]
    · rw [if_neg hn]
  · obtain ⟨k1, t1⟩ := FF h1
    obtain ⟨k2, n2, _⟩ := CK h2'
    simp only [h1, h2, h2', if_true, Bool.false_eq_true, if_false, Bool.not_true, Bool.or_self, cond_false]
    unfold yS
    rw [k1, k2]; rfl
  · obtain ⟨k1, n1, _⟩ := CK h1'
    obtain ⟨k2, t2⟩ := FF h2
    simp only [h1, h1', h2, if_true, Bool.false_eq_true, if_false, Bool.not_true, Bool.or_self, cond_false]
    unfold yS
    rw [k1, k2]; rfl
  · obtain ⟨k1, n1, _⟩ := CK h1'
    obtain ⟨k2, n2, _⟩ := CK h2'
    simp only [h1, h1', h2, h2', if_true, Bool.false_eq_true, if_false, Bool.not_true, Bool.or_self, cond_false]
    unfold yS mS iF
    rw [k1, k2, n1, n2, if_pos rfl, if_pos rfl]
    simp [ZV]

theorem QB {r : List aH} (h : pT r = true) : r.length ≤ 8 ∧ ∀ v ∈ r, CU v = true := by
  simp only [pT, Bool.and_eq_true, decide_eq_true_eq, List.all_eq_true] at h; exact h

theorem VY {a b : List aH} {k : Nat} (hk : k = a.length ∨ k = b.length) (h1 : k ≤ a.length) (h2 : k ≤ b.length) : jJ (a.drop k) (b.drop k) = qG a.length b.length := by
  rcases hk with rfl | rfl
  · rw [List.drop_length]
    by_cases h : a.length = b.length
    · rw [h, List.drop_length, EB]; rfl
    · rw [List.drop_eq_getElem_cons (by omega)]
      show (-1 : Int) = _
      unfold qG; rw [if_pos (by omega)]
  · rw [List.drop_length]
    by_cases h : a.length = b.length
    · rw [← h, List.drop_length, EB]; rfl
    · rw [List.drop_eq_getElem_cons (by omega)]
      show (1 : Int) = _
      unfold qG; rw [if_neg (by omega), if_pos (by omega)]

theorem QW {a b : List aH} (hl : a.length ≤ 8) (hlb : b.length ≤ 8) (n : Nat) (hn : n = min a.length b.length) : ∀ (m k : Nat), n - k = m → k ≤ n →
    ∃ x, lp (fun s : Int × Int => bW (fun st y0 => (jH y0 st b).bind fun o => some (o.2, o.1)) (a.take n) (n : Nat) s.1 s.2) ((k : Int) - 1, (k : Int)) = some x ∧
      ((∃ sg, x = .inl sg ∧ jJ (a.drop k) (b.drop k) = qG a.length b.length) ∨
        (∃ i : Nat, x = .inr ((i : Int), (i : Int)) ∧ i < a.length ∧ i < b.length ∧ jJ (a.drop k) (b.drop k) = yS (a.getD i default) (b.getD i default)))
  | 0, k, hm, hk => by
    have : k = n := by omega
    subst this
    refine ⟨.inl ((k : Int) - 1), cK ?_, .inl ⟨_, rfl, VY (by omega) (by omega) (by omega)⟩⟩
    show bW _ _ _ _ _ = _
    simp only [bW, jF, cond_false]
  | m + 1, k, hm, hk => by
    have h1 : k < a.length := by omega
    have h2 : k < b.length := by omega
    have ht : (a.take n)[k]? = some a[k] := by
      rw [List.getElem?_take_of_lt (by omega)]; exact List.getElem?_eq_getElem h1
    obtain ⟨d1, d2, d3, d4⟩ := idx ht (by simp; omega)
    have hlt : (a.take n).length = n := by simp; omega
    rw [hlt] at d1 d2
    obtain ⟨_, e2, e3, _⟩ := idx (List.getElem?_eq_getElem h2) (by omega)
    have hw : IntKind.i64.wrap ((k : Int) - 1 + 1) = (k : Int) := by rw [jL (by omega) (by omega)]; omega
    have hb : (fun s : Int × Int => bW (fun st y0 => (jH y0 st b).bind fun o => some (o.2, o.1)) (a.take n) (n : Nat) s.1 s.2) ((k : Int) - 1, (k : Int)) =
        some (if a[k] = b[k] then .inl ((k : Int), ((k + 1 : Nat) : Int)) else .inr (.inr ((k : Int), (k : Int)))) := by
      show bW _ _ _ _ _ = _
      simp only [bW, d1, cond_true, hlt, bC d2, d3, d4, jH, hw, bC e2, e3, veq, Option.bind_some]
      by_cases h : a[k] = b[k] <;> simp [h]
    have ea : a.drop k = a[k] :: a.drop (k + 1) := List.drop_eq_getElem_cons h1
    have eb : b.drop k = b[k] :: b.drop (k + 1) := List.drop_eq_getElem_cons h2
    by_cases h : a[k] = b[k]
    · rw [if_pos h] at hb
      obtain ⟨x, e, hx⟩ := QW hl hlb n hn m (k + 1) (by omega) (by omega)
      have hc : jJ (a.drop k) (b.drop k) = jJ (a.drop (k + 1)) (b.drop (k + 1)) := by
        rw [ea, eb]; unfold jJ; rw [lQ, if_pos h]
      refine ⟨x, ?_, by rw [hc]; exact hx⟩
      rw [eP hb]
      rw [show ((k + 1 : Nat) : Int) - 1 = (k : Int) by omega] at e
      exact e
    · rw [if_neg h] at hb
      refine ⟨_, cK hb, .inr ⟨k, rfl, h1, h2, ?_⟩⟩
      rw [ea, eb]; unfold jJ; rw [lQ, if_neg h]
      simp [List.getD_eq_getElem?_getD, h1, h2]

theorem KM (a b : List aH) : pV a b = some (if pT a && pT b then jJ a b else 0) := by
  unfold pV
  rw [FB]
  simp only [Option.bind_some]
  cases ha : pT a
  · simp [hU]
  · simp only [Bool.not_true, Bool.not_false, hU, cond_true, FB, Option.bind_some, Bool.false_or]
    cases hb : pT b
    · simp
    · obtain ⟨la, ma⟩ := QB ha
      obtain ⟨lb, mb⟩ := QB hb
      have hif : (if ((List.length b : Nat) : Int) < ((List.length a : Nat) : Int) then ((List.length b : Nat) : Int) else ((List.length a : Nat) : Int)) = ((min a.length b.length : Nat) : Int) := by split <;> omega
      have hlt : (a.take (min a.length b.length)).length = min a.length b.length := by rw [List.length_take]; omega
      simp only [Bool.not_true, cond_false, hif, Int.toNat_natCast, sO, Option.bind_some, fE, eW, hlt, Bool.and_self, if_true]
      rw [bC ⟨by omega, by omega⟩]
      obtain ⟨x, e, hx⟩ := QW (a := a) (b := b) la lb _ rfl _ 0 rfl (Nat.zero_le _)
      have e' : lp (fun s : Int × Int => bW (fun st y0 => (jH y0 st b).bind fun o => some (o.2, o.1)) (a.take (min a.length b.length)) (min a.length b.length : Nat) s.1 s.2) ((-1 : Int), (0 : Int)) = some x := e
      rw [e']
      simp only [List.drop_zero] at hx
      rcases hx with ⟨sg, rfl, h⟩ | ⟨i, rfl, h1, h2, h⟩
      · simp [dD, JO, h]
      · have hi : decide ((i : Int) < 0) = false := by simp
        simp only [Option.bind_some, Sum.elim_inr, hi, cond_false, Int.toNat_natCast]
        rw [bC ⟨by omega, by omega⟩, bC ⟨by omega, by omega⟩]
        have g1 : a.getD i default ∈ a := by simp [List.getD_eq_getElem?_getD, h1]
        have g2 : b.getD i default ∈ b := by simp [List.getD_eq_getElem?_getD, h2]
        rw [VI (ma _ g1) (mb _ g2), h]
        simp only [Option.bind_some]

end Go.Abs
namespace Go.Abs
open Go
def jE (e : aB) : aD := ⟨e.At, e.Net⟩

def gA (r : List aH) (f : List aD) : List aB → List (List aH × List aD)
  | [] => [(r, f)]
  | e :: l => if e.Row = r then gA r (f ++ [jE e]) l else (r, f) :: gA e.Row [jE e] l

def groups : List aB → List (List aH × List aD)
  | [] => []
  | e :: l => gA e.Row [jE e] l

def itG {σ : Type} (y : σ → List aH → List aD → Option (σ × Bool)) : List (List aH × List aD) → σ → Option σ
  | [], s => some s
  | g :: gs, s => (y s g.1 g.2).bind fun x => if x.2 then itG y gs x.1 else some x.1

def okL (l : List aB) : Prop := l.length ≤ 3518437208783 ∧ ∀ e ∈ l, e.Row.length ≤ 4398046510976

theorem HR {r : List aH} (h : r.length ≤ 4398046510976) : tW r = some r := by
  unfold tW
  rw [bC ⟨by omega, by omega, by omega⟩, bC (by simp only [List.length_nil, Nat.zero_add]; omega)]
  rfl

theorem HK {σ : Type} {y : σ → List aH → List aD → Option (σ × Bool)} {l : List aB} (hl : okL l) (row : List aH) (sg : σ) : ∀ (r : List aB) (k : Nat) (f : List aD), l.drop k = r → k ≤ l.length → f.length ≤ k →
    ∃ k' f', k ≤ k' ∧ k' ≤ l.length ∧ f'.length ≤ k' ∧ lp (fun s : σ × Int × List aD => iA y l row s.1 s.2.1 s.2.2) (sg, (k : Int), f) = some (sg, ((k' : Nat) : Int), f') ∧
      gA row f r = (row, f') :: groups (l.drop k') ∧ (∀ e r', r = e :: r' → e.Row = row → k < k')
  | [], k, f, hd, hk, hf => by
    have : k = l.length := by
      have := congrArg List.length hd
      simp only [List.length_drop, List.length_nil] at this; omega
    subst this
    refine ⟨l.length, f, Nat.le_refl _, Nat.le_refl _, hf, cK ?_, by simp [gA, groups], fun e r' h => by cases h⟩
    show iA _ _ _ _ _ _ = _
    simp only [iA, jF, hU, cond_false, Option.bind_some, Bool.false_and]
    exact bC (fun h => by cases h)
  | a :: r, k, f, hd, hk, hf => by
    obtain ⟨h1, h2⟩ := drop_cons hd
    have hlt : k < l.length := (List.getElem?_eq_some_iff.1 h1).1
    obtain ⟨hll, hlr⟩ := hl
    obtain ⟨d1, d2, d3, d4⟩ := idx h1 (by omega)
    have har := hlr a (List.mem_of_getElem? h1)
    have hb : (fun s : σ × Int × List aD => iA y l row s.1 s.2.1 s.2.2) (sg, (k : Int), f) = some (if a.Row = row then .inl (sg, ((k + 1 : Nat) : Int), f ++ [jE a]) else .inr (sg, (k : Int), f)) := by
      show iA _ _ _ _ _ _ = _
      simp only [iA, d1, d3, d4, hU, cond_true, RR a.Row row (by omega), Option.bind_some, Bool.true_and]
      rw [bC (fun _ => d2)]
      by_cases e : a.Row = row
      · simp only [e, decide_true, cond_true, if_true]
        rw [bC d2, bC d2, bC (by simp only [List.length_cons, List.length_nil]; omega)]
        rfl
      · simp [e]
    by_cases e : a.Row = row
    · rw [if_pos e] at hb
      obtain ⟨k', f', g1, g2, g3, g4, g5, _⟩ := HK ⟨hll, hlr⟩ row sg r (k + 1) (f ++ [jE a]) h2 (by omega) (by simp; omega) (y := y)
      refine ⟨k', f', by omega, g2, g3, by rw [eP hb]; exact g4, by simp [gA, e, g5], fun _ _ _ _ => by omega⟩
    · rw [if_neg e] at hb
      refine ⟨k, f, Nat.le_refl _, hk, hf, cK hb, ?_, fun b r' h hr => by cases h; exact absurd hr e⟩
      rw [hd]; simp [gA, e, groups]

theorem RT {σ : Type} {y : σ → List aH → List aD → Option (σ × Bool)} {l : List aB} (hl : okL l) : ∀ (m k : Nat) (sg s' : σ), l.length - k ≤ m → k ≤ l.length → itG y (groups (l.drop k)) sg = some s' →
    ∃ x, lp (fun s : σ × Int => fU y l s.1 s.2) (sg, (k : Int)) = some x ∧ Sum.elim id id x = s' := by
  have stop : ∀ (sg s' : σ), itG y (groups (l.drop l.length)) sg = some s' → ∃ x, lp (fun s : σ × Int => fU y l s.1 s.2) (sg, ((l.length : Nat) : Int)) = some x ∧ Sum.elim id id x = s' := by
    intro sg s' h
    rw [List.drop_length] at h
    simp only [groups, itG, Option.some.injEq] at h
    refine ⟨.inl sg, cK ?_, h⟩
    show fU _ _ _ _ = _
    simp only [fU, jF, cond_false]
  intro m
  induction m with
  | zero =>
    intro k sg s' hm hk h
    have : k = l.length := by omega
    subst this; exact stop sg s' h
  | succ m ih =>
    intro k sg s' hm hk h
    by_cases he : k = l.length
    · subst he; exact stop sg s' h
    · have hlt : k < l.length := by omega
      have hd : l.drop k = l[k] :: l.drop (k + 1) := List.drop_eq_getElem_cons hlt
      obtain ⟨d1, d2, d3, d4⟩ := idx (List.getElem?_eq_getElem hlt) (by have := hl.1; omega)
      obtain ⟨k', f', g1, g2, g3, g4, g5, g6⟩ := HK hl l[k].Row sg (l.drop k) k [] rfl hk (by simp) (y := y)
      have hk' := g6 _ _ hd rfl
      have hg : groups (l.drop k) = (l[k].Row, f') :: groups (l.drop k') := by
        rw [← g5, hd]; simp [groups, gA]
      rw [hg] at h
      simp only [itG] at h
      obtain ⟨x, hx, h⟩ := bB h
      have hrow := hl.2 _ (List.getElem_mem hlt)
      have hb : (fun s : σ × Int => fU y l s.1 s.2) (sg, (k : Int)) = some (if x.2 then .inl (x.1, ((k' : Nat) : Int)) else .inr (.inr x.1)) := by
        show fU _ _ _ _ = _
        simp only [fU, d1, cond_true, bC d2, d3, rC, g4, Option.bind_some, pL, HR hrow, hx]
        cases x.2 <;> simp
      cases hx2 : x.2
      · rw [hx2] at hb h
        simp only [Bool.false_eq_true, if_false, Option.some.injEq] at hb h
        exact ⟨_, cK hb, h⟩
      · rw [hx2] at hb h
        simp only [if_true] at hb h
        obtain ⟨z, hz1, hz2⟩ := ih k' x.1 s' (by omega) g2 h
        exact ⟨z, by rw [eP hb]; exact hz1, hz2⟩

theorem PX {σ : Type} {y : σ → List aH → List aD → Option (σ × Bool)} {l : List aB} (hl : okL l) {s s' : σ} (h : itG y (groups l) s = some s') : oG y l s = some s' := by
  unfold oG rA
  obtain ⟨x, h1, h2⟩ := RT hl l.length 0 s s' (by omega) (Nat.zero_le _) (by simpa using h)
  simp only [Int.natCast_zero] at h1
  rw [h1]
  cases x <;> simpa using h2

def ahd (last : Option (List aH)) (r : List aH) : Bool := match last with
  | none => true
  | some q => decide (jJ q r < 0)

def vQ (p : List aD → Bool) : Option (List aH) → List (List aH × List aD) → Bool
  | _, [] => true
  | last, g :: gs => (pT g.1 && ahd last g.1 && p g.2) && vQ p (some g.1) gs

theorem QE {holds : List aD → Option Bool} {p : List aD → Bool} (hp : ∀ f, holds f = some (p f)) (c : List aB) (t : Bool) : ∀ (gs : List (List aH × List aD)) (last : List aH) (b : Bool), (b = true → pT last = true) →
    ∃ x, itG (fun st r f => rnd (fun (s : Bool × (List aH) × Bool) => pJ holds c s.1 s.2.1 s.2.2 r f) st) gs (.inl (t, last, b)) = some x ∧
      (if vQ p (if b then some last else none) gs then ∃ u, x = .inl (t, u) else ∃ u, x = .inr (false, u))
  | [], last, b, _ => ⟨_, rfl, by simp [vQ]⟩
  | g :: gs, last, b, hb => by
    have hy : pJ holds c t last b g.1 g.2 = some (if pT g.1 && ahd (if b then some last else none) g.1 && p g.2 then .inl (t, g.1, true) else .inr (false, last, b)) := by
      unfold pJ
      simp only [FB, Option.bind_some, KM, hp]
      cases hm : pT g.1
      · simp [hU]
      · cases b
        · cases h2 : p g.2 <;> simp [hU, ahd, h2]
        · have hl := hb rfl
          by_cases h1 : jJ last g.1 < 0
          · have h1' : ¬ (0 ≤ jJ last g.1) := by omega
            cases h2 : p g.2 <;> simp [hU, ahd, h2, hl, h1, h1']
          · have h1' : 0 ≤ jJ last g.1 := by omega
            simp [hU, ahd, hl, h1, h1']
    cases hc : (pT g.1 && ahd (if b then some last else none) g.1 && p g.2)
    · rw [hc] at hy
      simp only [itG, rnd, hy, Option.bind_some, vQ, hc]
      exact ⟨.inr (false, last, b), by simp, by simp⟩
    · rw [hc] at hy
      simp only [itG, rnd, hy, Option.bind_some, vQ, hc]
      have hm : pT g.1 = true := by simp only [Bool.and_eq_true] at hc; exact hc.1.1
      obtain ⟨x, h1, h2⟩ := QE hp c t gs g.1 true (fun _ => hm)
      refine ⟨x, ?_, ?_⟩
      · simpa [rnd] using h1
      · simpa using h2

theorem ZI {l : List aB} (hl : okL l) {holds : List aD → Option Bool} {p : List aD → Bool} (hp : ∀ f, holds f = some (p f)) : uH l holds = some (decide (l.length ≤ 4096) && vQ p none (groups l)) := by
  unfold uH
  by_cases h : l.length ≤ 4096
  · have h1 : decide ((4096 : Int) < ((l.length : Nat) : Int)) = false := by simp; omega
    rw [h1, cond_false]
    simp only [rZ, Option.bind_some, wI]
    obtain ⟨x, e1, e2⟩ := QE hp l false (groups l) [] false (fun h => by cases h)
    rw [PX hl e1]
    simp only [Bool.false_eq_true, if_false] at e2
    simp only [h, decide_true, Bool.true_and]
    cases hc : vQ p none (groups l)
    · rw [hc] at e2
      simp only [Bool.false_eq_true, if_false] at e2
      obtain ⟨u, rfl⟩ := e2
      rfl
    · rw [hc] at e2
      simp only [if_true] at e2
      obtain ⟨u, rfl⟩ := e2
      rfl
  · have h1 : decide ((4096 : Int) < ((l.length : Nat) : Int)) = true := by simp; omega
    rw [h1, cond_true]
    simp [h]

def oD (l : List aB) : Bool := decide (l.length ≤ 4096) && vQ pM none (groups l)

theorem IY {l : List aB} (hl : okL l) : qA l = some (oD l) := by
  unfold qA
  rw [ZI hl (p := pM) (fun f => UA f)]; rfl

def iI (r : List aH) (f : List aD) : List aB := f.map fun j => ⟨r, j.At, j.Net⟩

theorem put_eq {out : List aB} {r : List aH} {f : List aD} (hr : r.length ≤ 4398046510976) (hl : out.length + f.length ≤ 1099511627776) : vV out r f = some (out ++ iI r f) := by
  unfold vV xD
  rw [wP (l := f) (body := fun s : List aB × Int => oY r f (f.length : Nat) s.1 s.2) (fun o i => (o, i)) (fun o t => o ++ iI r t) (fun o t => o.length + t.length ≤ 1099511627776) out ?_ ?_ hl]
  · rfl
  · intro i a t o ha hi
    left
    obtain ⟨d1, d2, d3, d4⟩ := idx ha (by have := (List.getElem?_eq_some_iff.1 ha).1; omega)
    simp only [List.length_cons] at hi
    refine ⟨o ++ [⟨r, a.At, a.Net⟩], ?_, by simp; omega, by simp [iI]⟩
    show oY _ _ _ _ _ = _
    simp only [oY, d1, cond_true, bC d2, d3, d4, HR hr, Option.bind_some]
    exact bC (by simp only [List.length_cons, List.length_nil]; omega)
  · intro o _
    show oY _ _ _ _ _ = _
    simp only [oY, jF, cond_false]
    simp [iI]

def qN (by1 : List aD → List aD × Int) : List (List aH × List aD) → List aB → List aB × Int
  | [], out => (out, 0)
  | g :: gs, out => if (by1 g.2).2 ≠ 0 then ([], (by1 g.2).2) else if 4096 < (out ++ iI g.1 (by1 g.2).1).length then ([], 7) else qN by1 gs (out ++ iI g.1 (by1 g.2).1)

theorem KJ {by0 : List aD → Option (List aD × Int)} {by1 : List aD → List aD × Int} (c : List aB) : ∀ (gs : List (List aH × List aD)) (out : List aB), out.length ≤ 4096 → (∀ g ∈ gs, by0 g.2 = some (by1 g.2) ∧ (by1 g.2).1.length ≤ 1024 ∧ g.1.length ≤ 4398046510976) →
    ∃ x, itG (fun st r f => rnd (fun (s : (List aB) × Int × List aB) => nI by0 c s.1 s.2.1 s.2.2 r f) st) gs (.inl ([], 0, out)) = some x ∧ Sum.elim (fun s : (List aB) × Int × List aB => (s.2.2, (0 : Int))) (fun s => (s.1, s.2.1)) x = qN by1 gs out
  | [], out, _, _ => ⟨_, rfl, rfl⟩
  | g :: gs, out, ho, hg => by
    obtain ⟨h1, h2, h3⟩ := hg g (by simp)
    have hy : nI by0 c [] 0 out g.1 g.2 = some (if (by1 g.2).2 ≠ 0 then .inr ([], (by1 g.2).2, out) else if 4096 < (out ++ iI g.1 (by1 g.2).1).length then .inr ([], 7, out ++ iI g.1 (by1 g.2).1) else .inl ([], 0, out ++ iI g.1 (by1 g.2).1)) := by
      unfold nI
      simp only [h1, Option.bind_some, put_eq h3 (show out.length + (by1 g.2).1.length ≤ 1099511627776 by omega)]
      by_cases e1 : (by1 g.2).2 = 0
      · by_cases e2 : 4096 < (out ++ iI g.1 (by1 g.2).1).length
        · have e2' : (4096 : Int) < (((out ++ iI g.1 (by1 g.2).1).length : Nat) : Int) := by omega
          simp only [e1, e2, e2', decide_true, Bool.not_true, cond_false, cond_true, ne_eq, not_true_eq_false, if_false, if_true]
        · have e2' : ¬ (4096 : Int) < (((out ++ iI g.1 (by1 g.2).1).length : Nat) : Int) := by omega
          simp only [e1, e2, e2', decide_true, decide_false, Bool.not_true, cond_false, ne_eq, not_true_eq_false, if_false]
      · simp only [e1, decide_false, Bool.not_false, cond_true, ne_eq, not_false_eq_true, if_true]
    simp only [itG, rnd, hy, Option.bind_some, qN]
    by_cases e1 : (by1 g.2).2 ≠ 0
    · rw [if_pos e1, if_pos e1]; exact ⟨_, rfl, rfl⟩
    · rw [if_neg e1, if_neg e1]
      by_cases e2 : 4096 < (out ++ iI g.1 (by1 g.2).1).length
      · rw [if_pos e2, if_pos e2]; exact ⟨_, rfl, rfl⟩
      · rw [if_neg e2, if_neg e2]
        exact KJ c gs _ (by omega) (fun q hq => hg q (by simp [hq]))

theorem UE {l : List aB} (hl : okL l) {by0 : List aD → Option (List aD × Int)} {by1 : List aD → List aD × Int} (hb : ∀ g ∈ groups l, by0 g.2 = some (by1 g.2) ∧ (by1 g.2).1.length ≤ 1024 ∧ g.1.length ≤ 4398046510976) : rK l by0 = some (qN by1 (groups l) []) := by
  unfold rK
  simp only [rZ, Option.bind_some, tQ]
  obtain ⟨x, e1, e2⟩ := KJ (by0 := by0) (by1 := by1) l (groups l) [] (by simp) hb
  rw [PX hl e1]
  cases x <;> simpa using e2

def flat (gs : List (List aH × List aD)) : List aB := gs.flatMap fun g => iI g.1 g.2

theorem JF : ∀ (l : List aB) (r : List aH) (f : List aD), flat (gA r f l) = iI r f ++ l
  | [], r, f => by simp [gA, flat]
  | e :: l, r, f => by
    unfold gA
    split
    · rename_i h
      rw [JF l r]
      simp [iI, jE, ← h]
    · have := JF l e.Row [jE e]
      simp only [flat, List.flatMap_cons] at this ⊢
      rw [this]
      simp [iI, jE]

theorem uK (l : List aB) : flat (groups l) = l := by
  cases l with
  | nil => rfl
  | cons e l => unfold groups; rw [JF]; simp [iI, jE]

theorem OC {r : List aH} : ∀ {l : List aB} {f : List aD} {g : List aH × List aD}, g ∈ gA r f l → f ≠ [] → g.2 ≠ [] ∧ (g.1 = r ∨ ∃ e ∈ l, g.1 = e.Row)
  | [], f, g, h, hf => by simp only [gA, List.mem_singleton] at h; subst h; exact ⟨hf, .inl rfl⟩
  | e :: l, f, g, h, hf => by
    unfold gA at h
    split at h
    · obtain ⟨h1, h2⟩ := OC h (by simp)
      exact ⟨h1, h2.imp id fun ⟨x, hx, hx'⟩ => ⟨x, by simp [hx], hx'⟩⟩
    · rcases List.mem_cons.1 h with rfl | h
      · exact ⟨hf, .inl rfl⟩
      · obtain ⟨h1, h2⟩ := OC (r := e.Row) h (by simp)
        refine ⟨h1, .inr ?_⟩
        rcases h2 with h2 | ⟨x, hx, hx'⟩
        · exact ⟨e, by simp, h2⟩
        · exact ⟨x, by simp [hx], hx'⟩

theorem yD {l : List aB} {g : List aH × List aD} (h : g ∈ groups l) : g.2 ≠ [] ∧ ∃ e ∈ l, g.1 = e.Row := by
  cases l with
  | nil => simp [groups] at h
  | cons e l =>
    obtain ⟨h1, h2⟩ := OC h (by simp)
    refine ⟨h1, ?_⟩
    rcases h2 with h2 | ⟨x, hx, hx'⟩
    · exact ⟨e, by simp, h2⟩
    · exact ⟨x, by simp [hx], hx'⟩

end Go.Abs
namespace Go.Abs
open Go
def cA (l : List aB) (r : List aH) : List aD := (l.filter fun e => decide (e.Row = r)).map jE

theorem qS (a b : List aB) (r : List aH) : cA (a ++ b) r = cA a r ++ cA b r := by simp [cA]

theorem LH (q : List aH) (f : List aD) (r : List aH) : cA (iI q f) r = if q = r then f else [] := by
  induction f with
  | nil => simp [cA, iI]
  | cons j f ih =>
    have h1 : iI q (j :: f) = [⟨q, j.At, j.Net⟩] ++ iI q f := rfl
    rw [h1, qS, ih]
    by_cases h : q = r <;> simp [cA, jE, h]

def look : List (List aH × List aD) → List aH → List aD
  | [], _ => []
  | g :: gs, r => if g.1 = r then g.2 else look gs r

theorem qX (g : List aH × List aD) (gs : List (List aH × List aD)) (r : List aH) : look (g :: gs) r = if g.1 = r then g.2 else look gs r := rfl

abbrev ltG (a b : List aH × List aD) : Prop := jJ a.1 b.1 < 0

abbrev sD (gs : List (List aH × List aD)) : Prop := gs.Pairwise ltG

abbrev Full (gs : List (List aH × List aD)) : Prop := ∀ g ∈ gs, g.2 ≠ []

theorem oK {a : List aH} : ¬ jJ a a < 0 := by rw [(jQ.eq a a).2 rfl]; omega

theorem vJ : ∀ {gs : List (List aH × List aD)} {r : List aH}, (∀ g ∈ gs, g.1 ≠ r) → look gs r = []
  | [], _, _ => rfl
  | g :: gs, r, h => by
    rw [qX]
    rw [if_neg (h g (by simp))]
    exact vJ fun q hq => h q (by simp [hq])

theorem BZ (gs : List (List aH × List aD)) (r : List aH) : (look gs r = [] ∧ ∀ g ∈ gs, g.1 ≠ r) ∨ ∃ g ∈ gs, g.1 = r ∧ look gs r = g.2 := by
  induction gs with
  | nil => exact .inl ⟨rfl, by simp⟩
  | cons g gs ih =>
    rw [qX]
    by_cases h : g.1 = r
    · rw [if_pos h]; exact .inr ⟨g, by simp, h, rfl⟩
    · rw [if_neg h]
      rcases ih with ⟨h1, h2⟩ | ⟨q, hq, h1, h2⟩
      · refine .inl ⟨h1, fun q hq => ?_⟩
        rcases List.mem_cons.1 hq with rfl | hq
        · exact h
        · exact h2 q hq
      · exact .inr ⟨q, by simp [hq], h1, h2⟩

theorem yZ {gs : List (List aH × List aD)} (hs : sD gs) {g : List aH × List aD} (hg : g ∈ gs) : look gs g.1 = g.2 := by
  induction gs with
  | nil => simp at hg
  | cons q gs ih =>
    have hs' := List.pairwise_cons.1 hs
    rw [qX]
    rcases List.mem_cons.1 hg with rfl | hg
    · rw [if_pos rfl]
    · rw [if_neg (fun e => by have := hs'.1 g hg; simp only [ltG, e] at this; exact oK this)]
      exact ih hs'.2 hg

theorem sX (g : List aH × List aD) (gs : List (List aH × List aD)) : flat (g :: gs) = iI g.1 g.2 ++ flat gs := rfl

theorem qO : ∀ {gs : List (List aH × List aD)}, sD gs → ∀ r, cA (flat gs) r = look gs r
  | [], _, r => rfl
  | g :: gs, hs, r => by
    have hs' := List.pairwise_cons.1 hs
    rw [sX, qS, LH, qO hs'.2, qX]
    by_cases h : g.1 = r
    · rw [if_pos h, if_pos h, vJ, List.append_nil]
      intro q hq e
      have := hs'.1 q hq
      simp only [ltG, h, e] at this; exact oK this
    · rw [if_neg h, if_neg h]; rfl

theorem RB : ∀ {gs hs : List (List aH × List aD)}, sD gs → sD hs → Full gs → Full hs → (∀ r, look gs r = look hs r) → gs = hs
  | [], [], _, _, _, _, _ => rfl
  | [], h :: hs, _, _, _, fh, he => by
    have := he h.1
    simp only [qX, look, if_true] at this
    exact absurd this.symm (fh h (by simp))
  | g :: gs, [], _, _, fg, _, he => by
    have := he g.1
    simp only [qX, look, if_true] at this
    exact absurd this (fg g (by simp))
  | g :: gs, h :: hs, sg, sh, fg, fh, he => by
    have sg' := List.pairwise_cons.1 sg
    have sh' := List.pairwise_cons.1 sh
    by_cases e : g.1 = h.1
    · have h2 := he g.1
      simp only [look, if_true, if_pos e.symm] at h2
      have ht : gs = hs := RB sg'.2 sh'.2 (fun q hq => fg q (by simp [hq])) (fun q hq => fh q (by simp [hq])) fun r => by
        by_cases hr : g.1 = r
        · subst hr
          rw [vJ (gs := gs), vJ (gs := hs)]
          · intro q hq e'; have := sh'.1 q hq; simp only [ltG, ← e, e'] at this; exact oK this
          · intro q hq e'; have := sg'.1 q hq; simp only [ltG, e'] at this; exact oK this
        · have := he r
          simp only [look, if_neg hr, if_neg (fun x => hr (e.trans x))] at this
          exact this
      rw [ht]
      obtain ⟨g1, g2⟩ := g
      obtain ⟨h1, h3⟩ := h
      simp only at e h2
      rw [e, h2]
    · exfalso
      have hne : jJ g.1 h.1 ≠ 0 := fun x => e ((jQ.eq _ _).1 x)
      by_cases hlt : jJ g.1 h.1 < 0
      · have h2 := he g.1
        rw [yZ sg (by simp), vJ] at h2
        · exact fg g (by simp) h2
        · intro q hq e'
          rcases List.mem_cons.1 hq with rfl | hq
          · exact e e'.symm
          · have := jQ.trans _ _ _ hlt (sh'.1 q hq)
            rw [e'] at this; exact oK this
      · have hlt' : jJ h.1 g.1 < 0 := (jQ.anti _ _).2 (by omega)
        have h2 := he h.1
        rw [yZ sh (by simp), vJ] at h2
        · exact fh h (by simp) h2.symm
        · intro q hq e'
          rcases List.mem_cons.1 hq with rfl | hq
          · exact e e'
          · have := jQ.trans _ _ _ hlt' (sg'.1 q hq)
            rw [e'] at this; exact oK this

theorem AB {p : List aD → Bool} : ∀ {gs : List (List aH × List aD)} {last : Option (List aH)}, vQ p last gs = true ↔ (∀ g ∈ gs, pT g.1 = true ∧ p g.2 = true) ∧ sD gs ∧ (∀ q, last = some q → ∀ g ∈ gs, jJ q g.1 < 0)
  | [], last => by simp [vQ]
  | g :: gs, last => by
    unfold vQ
    simp only [Bool.and_eq_true, AB (gs := gs), List.mem_cons, List.pairwise_cons]
    constructor
    · rintro ⟨⟨⟨h1, h2⟩, h3⟩, h4, h5, h6⟩
      refine ⟨?_, ⟨fun q hq => h6 _ rfl q hq, h5⟩, ?_⟩
      · rintro q (rfl | hq)
        · exact ⟨h1, h3⟩
        · exact h4 q hq
      · rintro q rfl x (rfl | hx)
        · simpa [ahd] using h2
        · simp only [ahd, decide_eq_true_eq] at h2
          exact jQ.trans _ _ _ h2 (h6 _ rfl x hx)
    · rintro ⟨h1, ⟨h2, h3⟩, h4⟩
      refine ⟨⟨⟨(h1 g (.inl rfl)).1, ?_⟩, (h1 g (.inl rfl)).2⟩, fun q hq => h1 q (.inr hq), h3, ?_⟩
      · unfold ahd
        split
        · rfl
        · exact decide_eq_true (h4 _ rfl g (.inl rfl))
      · rintro q hq x hx
        cases hq
        exact h2 x hx

theorem OW (l : List aB) : Full (groups l) := fun _ hg => (yD hg).1

theorem tT {l : List aB} (h : oD l = true) : l.length ≤ 4096 ∧ (∀ g ∈ groups l, pT g.1 = true ∧ pM g.2 = true) ∧ sD (groups l) := by
  simp only [oD, Bool.and_eq_true, decide_eq_true_eq] at h
  obtain ⟨h1, h2, _⟩ := AB.1 h.2
  exact ⟨h.1, h1, h2⟩

theorem UO {l : List aB} (h : oD l = true) (r : List aH) : pM (look (groups l) r) = true := by
  rcases BZ (groups l) r with ⟨h1, _⟩ | ⟨g, hg, _, h1⟩
  · rw [h1]; exact ZJ
  · rw [h1]; exact ((tT h).2.1 g hg).2

theorem tR {l : List aB} (h : sD (groups l)) (r : List aH) : look (groups l) r = cA l r := by
  rw [← qO h, uK]

theorem QH (r : List aH) (f : List aD) (e : aB) (l : List aB) : gA r f (e :: l) = if e.Row = r then gA r (f ++ [jE e]) l else (r, f) :: gA e.Row [jE e] l := rfl

theorem MG (r : List aH) : ∀ (f2 f : List aD) (l : List aB), gA r f (iI r f2 ++ l) = gA r (f ++ f2) l
  | [], f, l => by simp [iI]
  | j :: f2, f, l => by
    show gA r f (⟨r, j.At, j.Net⟩ :: (iI r f2 ++ l)) = _
    rw [QH, if_pos rfl, MG r f2]
    simp [jE]

theorem JZ : ∀ {gs : List (List aH × List aD)}, sD gs → Full gs → groups (flat gs) = gs
  | [], _, _ => rfl
  | (r, f) :: gs, hs, hf => by
    have hs' := List.pairwise_cons.1 hs
    have hne := hf (r, f) (by simp)
    have ih := JZ hs'.2 (fun g hg => hf g (by simp [hg]))
    cases f with
    | nil => exact absurd rfl hne
    | cons j f =>
      rw [sX]
      show gA r [jE ⟨r, j.At, j.Net⟩] (iI r f ++ flat gs) = _
      rw [MG]
      have key : ∀ (F : List aD), gA r F (flat gs) = (r, F) :: groups (flat gs) := by
        intro F
        cases gs with
        | nil => rfl
        | cons g gs =>
          obtain ⟨q, f'⟩ := g
          have hq := hf (q, f') (by simp)
          cases f' with
          | nil => exact absurd rfl hq
          | cons j' f' =>
            have hqr : q ≠ r := fun e => by
              have := hs'.1 (q, j' :: f') (by simp)
              simp only [ltG, e] at this; exact oK this
            rw [sX]
            show gA r F (⟨q, j'.At, j'.Net⟩ :: (iI q f' ++ flat gs)) = _
            rw [gA, if_neg hqr]
            rfl
      rw [key, ih]
      rfl

def AR (gs : List (List aH × List aD)) : List (List aH × List aD) := gs.filter fun g => !g.2.isEmpty

theorem vE : ∀ (gs : List (List aH × List aD)), flat (AR gs) = flat gs
  | [] => rfl
  | (r, []) :: gs => by
    have : AR ((r, []) :: gs) = AR gs := rfl
    rw [this, vE gs, sX]; rfl
  | (r, j :: f) :: gs => by
    have : AR ((r, j :: f) :: gs) = (r, j :: f) :: AR gs := rfl
    rw [this, sX, sX, vE gs]

theorem KR (gs : List (List aH × List aD)) : Full (AR gs) := by
  intro g hg
  have := (List.mem_filter.1 hg).2
  intro h; rw [h] at this; simp at this

theorem zY {gs : List (List aH × List aD)} (hs : sD gs) : groups (flat gs) = AR gs := by
  rw [← vE]
  exact JZ (hs.filter _) (KR gs)

theorem SY {gs : List (List aH × List aD)} (hs : sD gs) (r : List aH) : look (groups (flat gs)) r = look gs r := by
  have h1 := qO (gs := AR gs) (hs.filter _) r
  rw [zY hs, ← h1, ← qO hs, vE]

theorem TF {gs : List (List aH × List aD)} (hs : sD gs) (hm : ∀ g ∈ gs, pT g.1 = true ∧ pM g.2 = true) (hl : (flat gs).length ≤ 4096) : oD (flat gs) = true := by
  simp only [oD, Bool.and_eq_true, decide_eq_true_eq]
  refine ⟨hl, AB.2 ?_⟩
  rw [zY hs]
  exact ⟨fun g hg => hm g (List.mem_filter.1 hg).1, hs.filter _, by simp⟩

def tZ (by1 : List aD → List aD × Int) (gs : List (List aH × List aD)) : List (List aH × List aD) := gs.map fun g => (g.1, (by1 g.2).1)

theorem GY {by1 : List aD → List aD × Int} {gs : List (List aH × List aD)} (hs : sD gs) : sD (tZ by1 gs) := by
  rw [sD, tZ, List.pairwise_map]; exact hs

theorem DM {by1 : List aD → List aD × Int} (h0 : (by1 []).1 = []) : ∀ (gs : List (List aH × List aD)) (r : List aH), look (tZ by1 gs) r = (by1 (look gs r)).1
  | [], r => h0.symm
  | g :: gs, r => by
    show look ((g.1, (by1 g.2).1) :: tZ by1 gs) r = _
    rw [qX, qX]
    by_cases h : g.1 = r
    · rw [if_pos h, if_pos h]
    · rw [if_neg h, if_neg h]; exact DM h0 gs r

theorem QA {by1 : List aD → List aD × Int} : ∀ {gs : List (List aH × List aD)} {out : List aB}, out.length ≤ 4096 → (qN by1 gs out).2 = 0 → (∀ g ∈ gs, (by1 g.2).2 = 0) ∧ (qN by1 gs out).1 = out ++ flat (tZ by1 gs) ∧ (qN by1 gs out).1.length ≤ 4096
  | [], out, ho, _ => by simp [qN, tZ, flat, ho]
  | g :: gs, out, ho, h => by
    unfold qN at h ⊢
    by_cases e1 : (by1 g.2).2 = 0
    · rw [if_neg (by simp [e1])] at h ⊢
      by_cases e2 : 4096 < (out ++ iI g.1 (by1 g.2).1).length
      · rw [if_pos e2] at h; simp at h
      · rw [if_neg e2] at h ⊢
        obtain ⟨h1, h2, h3⟩ := QA (by omega) h
        refine ⟨?_, ?_, h3⟩
        · intro q hq
          rcases List.mem_cons.1 hq with rfl | hq
          · exact e1
          · exact h1 q hq
        · rw [h2]; simp [tZ, sX]
    · rw [if_pos e1] at h; exact absurd h e1

theorem NN {by1 : List aD → List aD × Int} : ∀ {gs : List (List aH × List aD)} {out : List aB}, (∀ g ∈ gs, (by1 g.2).2 = 0) → (out ++ flat (tZ by1 gs)).length ≤ 4096 → qN by1 gs out = (out ++ flat (tZ by1 gs), 0)
  | [], out, _, _ => by simp [qN, tZ, flat]
  | g :: gs, out, h, hl => by
    unfold qN
    have hf : flat (tZ by1 (g :: gs)) = iI g.1 (by1 g.2).1 ++ flat (tZ by1 gs) := rfl
    rw [hf] at hl ⊢
    rw [if_neg (by simp [h g (by simp)]), if_neg (by simp only [List.length_append] at hl ⊢; omega), NN (fun q hq => h q (by simp [hq])) (by simpa using hl)]
    simp

theorem MP {by1 : List aD → List aD × Int} : ∀ {gs : List (List aH × List aD)} {out : List aB}, (qN by1 gs out).2 ≠ 0 → (qN by1 gs out).1 = []
  | [], out, h => by simp [qN] at h
  | g :: gs, out, h => by
    unfold qN at h ⊢
    split
    · rfl
    · rename_i e1
      rw [if_neg e1] at h
      split
      · rfl
      · rename_i e2
        rw [if_neg e2] at h
        exact MP h

theorem TA {l : List aB} (hl : okL l) {g : List aH × List aD} (hg : g ∈ groups l) : g.1.length ≤ 4398046510976 := by
  obtain ⟨_, e, he, h⟩ := yD hg
  rw [h]; exact hl.2 e he

theorem PF {f g : List aB} (hl : okL f) : tD f g = some (decide (f = g)) := by
  unfold tD
  by_cases he : f.length = g.length
  · rw [LV he, cond_false]
    unfold uR
    have := LP (f := f) (g := g) (body := fun s => pU f g s) he ?_ ?_ f.length 0 rfl (Nat.zero_le _)
    · simp only [Int.natCast_zero, List.drop_zero] at this
      rw [this]
      by_cases h : f = g <;> simp [h, rJ]
    · intro i x y hx hy
      have hll := hl.1
      obtain ⟨d1, d2, d3, d4⟩ := idx hx (by omega)
      obtain ⟨_, e2, e3, _⟩ := idx hy (by omega)
      have hr := hl.2 x (List.mem_of_getElem? hx)
      simp only [pU, d1, cond_true, bC d2, bC e2, d3, e3, d4, hU]
      rw [bC (fun _ => d2), bC (fun _ => e2), bC (fun _ => d2), bC (fun _ => e2), KS x.Row y.Row (by omega)]
      obtain ⟨x1, x2, x3⟩ := x
      obtain ⟨y1, y2, y3⟩ := y
      by_cases h1 : x2 = y2 <;> by_cases h2 : x3 = y3 <;> by_cases h3 : x1 = y1 <;> simp [h1, h2, h3]
    · simp only [pU, jF, cond_false]
  · rw [NP he, cond_true]
    have : f ≠ g := fun h => he (by rw [h])
    simp [this]

end Go.Abs
namespace Go.Abs
theorem TW : @dK = @nH aB _ := rfl

theorem SP : @dV = @dY aB _ := rfl

theorem MD (cmp) : ∀ k, @gV cmp k = @eC aB _ cmp k
  | 0 => rfl
  | k + 1 => by
    show dV cmp _ = dY cmp _
    rw [MD cmp k, SP]

theorem TP : @eO = @oV aB _ := by
  funext d a m b cmp
  unfold eO oV
  simp only [MD]

theorem MJ : @fH = @vF aB _ := by
  funext d n cmp
  unfold fH vF iK xB
  unfold iJ mM fB xE
  unfold iM wX iU jV
  unfold iS uN iR mN
  unfold eY uL
  rw [TP, TW]
  rfl

end Go.Abs
namespace Go.Abs
open Go
theorem EM {l : List aB} {f : aB → Option Bool} {g : aB → Bool} (hl : l.length ≤ 1099511627776) (hf : ∀ x ∈ l, f x = some (g x)) : cN l f = some (l.any g) := by
  unfold cN fR fL
  obtain ⟨x, e, hx⟩ := CG hl hf l 0 rfl (Nat.zero_le _)
  have e' : lp (fun s => fI f l (l.length : Nat) s) 0 = some x := e
  rw [e']
  rcases hx with ⟨rfl, h⟩ | ⟨i, rfl, _, _, h, _⟩
  · simp [dQ, h]
  · simp [h]

def unE (e : aB) : Bool := ((!pT e.Row) || (decide ((1048576 : Int) < e.Net))) || (decide (e.Net < (-1048576 : Int)))

def AI (e : aB) : Bool := (decide (e.At < (-1 : Int))) || (decide ((1125899906842624 : Int) < e.At))

def RH (x y : aB) : Int := if jJ x.Row y.Row ≠ 0 then jJ x.Row y.Row else qG x.At y.At

abbrev okE (x : aB) : Prop := pT x.Row = true

abbrev leE (x y : aB) : Prop := jJ x.Row y.Row < 0 ∨ (x.Row = y.Row ∧ x.At ≤ y.At)

theorem or_eq (a b : Int) : sV [a, b] = some (if a ≠ 0 then a else b) := by
  unfold sV uU
  have w1 : IntKind.i64.wrap (1 : Int) = 1 := by rw [jL] <;> omega
  have w2 : IntKind.i64.wrap (2 : Int) = 2 := by rw [jL] <;> omega
  have b0 : (fun s => gX 0 [a, b] (([a, b] : List Int).length : Nat) s) (0 : Int) = some (if a ≠ 0 then .inr (.inr a) else .inl 1) := by
    show gX _ _ _ _ = _
    unfold gX
    rw [bC ⟨by omega, by simp⟩]
    by_cases h : a = 0 <;> simp [h, w1]
  have b1 : (fun s => gX 0 [a, b] (([a, b] : List Int).length : Nat) s) (1 : Int) = some (if b ≠ 0 then .inr (.inr b) else .inl 2) := by
    show gX _ _ _ _ = _
    unfold gX
    rw [bC ⟨by omega, by simp⟩]
    by_cases h : b = 0 <;> simp [h, w2]
  have b2 : (fun s => gX 0 [a, b] (([a, b] : List Int).length : Nat) s) (2 : Int) = some (.inr (.inl ())) := by
    show gX _ _ _ _ = _
    unfold gX
    simp
  by_cases h : a = 0
  · rw [if_neg (by simp [h])] at b0
    rw [eP b0]
    by_cases h2 : b = 0
    · rw [if_neg (by simp [h2])] at b1
      rw [eP b1, cK b2]
      simp [rO, h, h2]
    · rw [if_pos h2] at b1
      rw [cK b1]
      simp [h]
  · rw [if_pos h] at b0
    rw [cK b0]
    simp [h]

theorem ZD {x y : aB} (hx : okE x) (hy : okE y) : mW x y = some (RH x y) := by
  unfold mW RH
  rw [KM, hx, hy]
  simp only [Bool.and_self, if_true, Option.bind_some, JO, or_eq]

theorem YM (x y : aB) : RH x y < 0 ↔ ¬ leE y x := by
  unfold RH leE
  have ha := jQ.anti x.Row y.Row
  have hb := jQ.anti y.Row x.Row
  have he := jQ.eq x.Row y.Row
  by_cases h : jJ x.Row y.Row = 0
  · rw [if_neg (by simp [h])]
    have e := he.1 h
    have : ¬ jJ y.Row x.Row < 0 := by rw [e]; exact oK
    unfold qG
    constructor
    · intro h1 h2
      rcases h2 with h2 | ⟨_, h2⟩
      · exact this h2
      · split at h1
        · omega
        · split at h1 <;> omega
    · intro h1
      have : ¬ y.At ≤ x.At := fun h2 => h1 (.inr ⟨e.symm, h2⟩)
      rw [if_pos (by omega)]; omega
  · rw [if_pos h]
    have hne : y.Row ≠ x.Row := fun e => h (he.2 e.symm)
    constructor
    · intro h1 h2
      rcases h2 with h2 | ⟨h2, _⟩
      · have := hb.1 h2; omega
      · exact hne h2
    · intro h1
      have : ¬ jJ y.Row x.Row < 0 := fun h2 => h1 (.inl h2)
      rw [hb] at this
      omega

theorem UN (x y : aB) : leE x y ∨ leE y x := by
  unfold leE
  by_cases h : jJ x.Row y.Row = 0
  · have e := (jQ.eq _ _).1 h
    rcases Int.le_total x.At y.At with h1 | h1
    · exact .inl (.inr ⟨e, h1⟩)
    · exact .inr (.inr ⟨e.symm, h1⟩)
  · by_cases h1 : jJ x.Row y.Row < 0
    · exact .inl (.inl h1)
    · exact .inr (.inl ((jQ.anti _ _).2 (by omega)))

theorem VF {x y z : aB} (h1 : leE x y) (h2 : leE y z) : leE x z := by
  rcases h1 with h1 | ⟨e1, h1⟩ <;> rcases h2 with h2 | ⟨e2, h2⟩
  · exact .inl (jQ.trans _ _ _ h1 h2)
  · exact .inl (e2 ▸ h1)
  · exact .inl (e1.symm ▸ h2)
  · exact .inr ⟨e1.trans e2, by omega⟩

theorem aAO : Cmp okE leE (fun y0 y1 => mW y0 y1) where
  ans x y hx hy := ⟨_, ZD hx hy, YM x y⟩
  trans x y z _ _ _ h1 h2 := VF h1 h2
  total x y _ _ := UN x y

theorem aAL {l : List aB} (hl : l.length ≤ 1099511627776) (ho : ∀ e ∈ l, okE e) : ∃ r, r.Perm l ∧ Srt leE r ∧ cV l (fun y0 y1 => mW y0 y1) = some r := by
  obtain ⟨r, r1, r2, r3⟩ := KP aAO (d := l) ho hl
  refine ⟨r, r1, r2, ?_⟩
  unfold cV
  rw [MJ, r3]; rfl

theorem NB : ∀ {l : List aB} {r : List aH} {f : List aD}, Srt leE l → (∀ e ∈ l, e.Row = r ∨ jJ r e.Row < 0) → sD (gA r f l) ∧ ∀ g ∈ gA r f l, g.1 = r ∨ jJ r g.1 < 0
  | [], r, f, _, _ => by simp [gA]
  | e :: l, r, f, hs, hr => by
    have hs' := List.pairwise_cons.1 hs
    rw [QH]
    by_cases h : e.Row = r
    · rw [if_pos h]
      exact NB hs'.2 (fun x hx => hr x (by simp [hx]))
    · rw [if_neg h]
      have hlt : jJ r e.Row < 0 := (hr e (by simp)).resolve_left h
      obtain ⟨h1, h2⟩ := NB (r := e.Row) (f := [jE e]) hs'.2 (fun x hx => by
        rcases hs'.1 x hx with h | ⟨h, _⟩
        · exact .inr h
        · exact .inl h.symm)
      have key : ∀ g ∈ gA e.Row [jE e] l, jJ r g.1 < 0 := fun g hg => by
        rcases h2 g hg with h | h
        · rw [h]; exact hlt
        · exact jQ.trans _ _ _ hlt h
      refine ⟨List.pairwise_cons.2 ⟨key, h1⟩, ?_⟩
      intro g hg
      rcases List.mem_cons.1 hg with rfl | hg
      · exact .inl rfl
      · exact .inr (key g hg)

theorem tU {l : List aB} (hs : Srt leE l) : sD (groups l) := by
  cases l with
  | nil => exact List.Pairwise.nil
  | cons e l =>
    have hs' := List.pairwise_cons.1 hs
    exact (NB hs'.2 (fun x hx => by
      rcases hs'.1 x hx with h | ⟨h, _⟩
      · exact .inr h
      · exact .inl h.symm)).1

abbrev EG (rs : List (List aH)) : Prop := rs.Pairwise fun a b => jJ a b < 0

def yT (r : List aH) : List (List aH) → List (List aH)
  | [] => [r]
  | x :: xs => if jJ x r < 0 then x :: yT r xs else if x = r then x :: xs else r :: x :: xs

def rowsOf (l : List aB) : List (List aH) := l.foldl (fun rs e => yT e.Row rs) []

theorem HE {r x : List aH} : ∀ {rs : List (List aH)}, x ∈ yT r rs ↔ x = r ∨ x ∈ rs
  | [] => by simp [yT]
  | y :: ys => by
    unfold yT
    split
    · simp only [List.mem_cons, HE (rs := ys)]
      constructor
      · rintro (h | h | h)
        · exact .inr (.inl h)
        · exact .inl h
        · exact .inr (.inr h)
      · rintro (h | h | h)
        · exact .inr (.inl h)
        · exact .inl h
        · exact .inr (.inr h)
    · split
      · rename_i h; subst h; simp
      · simp

theorem MC {r : List aH} : ∀ {rs : List (List aH)}, EG rs → EG (yT r rs)
  | [], _ => by simp [yT]
  | y :: ys, hs => by
    have hs' := List.pairwise_cons.1 hs
    unfold yT
    split
    · rename_i h
      refine List.pairwise_cons.2 ⟨fun z hz => ?_, MC hs'.2⟩
      rcases HE.1 hz with rfl | hz
      · exact h
      · exact hs'.1 z hz
    · rename_i h
      split
      · exact hs
      · rename_i hne
        have hlt : jJ r y < 0 := by
          have h0 : jJ y r ≠ 0 := fun e => hne ((jQ.eq _ _).1 e)
          exact (jQ.anti _ _).2 (by omega)
        refine List.pairwise_cons.2 ⟨fun z hz => ?_, hs⟩
        rcases List.mem_cons.1 hz with rfl | hz
        · exact hlt
        · exact jQ.trans _ _ _ hlt (hs'.1 z hz)

theorem EV : ∀ (l : List aB) (rs : List (List aH)), EG rs → EG (l.foldl (fun rs e => yT e.Row rs) rs) ∧ ∀ x, x ∈ l.foldl (fun rs e => yT e.Row rs) rs ↔ x ∈ rs ∨ ∃ e ∈ l, e.Row = x
  | [], rs, hs => ⟨hs, by simp⟩
  | e :: l, rs, hs => by
    obtain ⟨h1, h2⟩ := EV l (yT e.Row rs) (MC hs)
    refine ⟨h1, fun x => ?_⟩
    simp only [List.foldl_cons]
    rw [h2 x, HE]
    simp only [List.mem_cons, exists_eq_or_imp]
    constructor
    · rintro ((h | h) | h)
      · exact .inr (.inl h.symm)
      · exact .inl h
      · exact .inr (.inr h)
    · rintro (h | h | h)
      · exact .inl (.inr h)
      · exact .inl (.inl h.symm)
      · exact .inr h

theorem IB (l : List aB) : EG (rowsOf l) := (EV l [] List.Pairwise.nil).1

theorem wH {l : List aB} {x : List aH} : x ∈ rowsOf l ↔ ∃ e ∈ l, e.Row = x := by
  have := (EV l [] List.Pairwise.nil).2 x
  simpa [rowsOf] using this

theorem NH : ∀ {a b : List (List aH)}, EG a → EG b → (∀ x, x ∈ a ↔ x ∈ b) → a = b
  | [], [], _, _, _ => rfl
  | [], y :: ys, _, _, h => absurd ((h y).2 (by simp)) (by simp)
  | x :: xs, [], _, _, h => absurd ((h x).1 (by simp)) (by simp)
  | x :: xs, y :: ys, ha, hb, h => by
    have ha' := List.pairwise_cons.1 ha
    have hb' := List.pairwise_cons.1 hb
    have e : x = y := by
      rcases List.mem_cons.1 ((h x).1 (by simp)) with h1 | h1
      · exact h1
      · rcases List.mem_cons.1 ((h y).2 (by simp)) with h2 | h2
        · exact h2.symm
        · exact absurd (jQ.trans _ _ _ (hb'.1 x h1) (ha'.1 y h2)) oK
    subst e
    rw [NH ha'.2 hb'.2 fun z => ?_]
    constructor
    · intro hz
      rcases List.mem_cons.1 ((h z).1 (by simp [hz])) with h1 | h1
      · subst h1; exact absurd (ha'.1 z hz) oK
      · exact h1
    · intro hz
      rcases List.mem_cons.1 ((h z).2 (by simp [hz])) with h1 | h1
      · subst h1; exact absurd (hb'.1 z hz) oK
      · exact h1

def wG (l : List aB) : List (List aH × List aD) := (rowsOf l).map fun r => (r, cA l r)

theorem GW (l : List aB) : sD (wG l) := by
  rw [sD, wG, List.pairwise_map]; exact IB l

theorem PG {l : List aB} {r : List aH} (h : ∀ e ∈ l, e.Row ≠ r) : cA l r = [] := by
  unfold cA
  rw [List.map_eq_nil_iff, List.filter_eq_nil_iff]
  intro e he
  simpa using h e he

theorem zT (l : List aB) (r : List aH) : look (wG l) r = cA l r := by
  rcases BZ (wG l) r with ⟨h1, h2⟩ | ⟨g, hg, h1, h2⟩
  · rw [h1, PG]
    intro e he hr
    have : (r, cA l r) ∈ wG l := List.mem_map.2 ⟨r, wH.2 ⟨e, he, hr⟩, rfl⟩
    exact h2 _ this rfl
  · rw [h2]
    obtain ⟨q, _, rfl⟩ := List.mem_map.1 hg
    simp only at h1
    rw [h1]

theorem LX {a b : List aB} (h : a.Perm b) (r : List aH) : (cA a r).Perm (cA b r) := (h.filter _).map _

theorem OZ {l l' : List aB} (hp : l'.Perm l) (hs : Srt leE l') : (groups l').map (·.1) = rowsOf l := by
  refine NH ?_ (IB l) fun x => ?_
  · rw [EG, List.pairwise_map]; exact tU hs
  · rw [wH]
    constructor
    · intro h
      obtain ⟨g, hg, rfl⟩ := List.mem_map.1 h
      obtain ⟨_, e, he, h1⟩ := yD hg
      exact ⟨e, hp.mem_iff.1 he, h1.symm⟩
    · rintro ⟨e, he, rfl⟩
      have he' : e ∈ flat (groups l') := by rw [uK]; exact hp.mem_iff.2 he
      obtain ⟨g, hg, h1⟩ := List.mem_flatMap.1 he'
      obtain ⟨j, _, rfl⟩ := List.mem_map.1 h1
      exact List.mem_map.2 ⟨g, hg, rfl⟩

theorem VR {l : List aD} (ht : ∀ j ∈ l, -2 < j.At) : Up (-2) (vP l) :=
  CC (by rw [List.map_map]; simpa [Function.comp_def] using DF ht)

theorem JQ {l : List aD} (ht : ∀ j ∈ l, -2 < j.At) {t : Int} (h1 : -2 < t) (h2 : t < 1125899906842624) : val (vP l) t = val l t := by
  have h0 : val l (-2) = 0 := DT fun j hj => ht j hj
  have := EH (F := val l) (DF ht) (fun s t' _ hst hlt hn => DW hst fun j hj hc => hn j.At (GQ.2 (Or.inr ⟨j, List.mem_filter.2 ⟨hj, by simp; omega⟩, rfl⟩)) hc) t (by omega) h2
  rw [h0] at this
  unfold vP
  rw [this]; omega

theorem SN {f g : List aD} (h : f.Perm g) (hf : f.any xR = false) : vP f = vP g := by
  have hg : ∀ j ∈ g, -2 < j.At := fun j hj => (wO hf j (h.mem_iff.2 hj)).1
  exact HA (fun j hj => (wO hf j hj).1) (VR hg) fun t h1 h2 => by rw [JQ hg h1 h2, LZ h]

theorem GU {f g : List aD} (h : f.Perm g) (p : aD → Bool) : f.any p = g.any p := by
  cases h1 : g.any p
  · rw [List.any_eq_false] at h1 ⊢
    exact fun x hx => h1 x (h.mem_iff.1 hx)
  · obtain ⟨x, hx, hp⟩ := List.any_eq_true.1 h1
    exact List.any_eq_true.2 ⟨x, h.mem_iff.2 hx, hp⟩

theorem SL {f g : List aD} (h : f.Perm g) : jM f = jM g := by
  unfold jM
  rw [GU h sY, GU h xR]
  split
  · rfl
  · split
    · rfl
    · rename_i h2
      rw [SN h (by rw [GU h xR]; simpa using h2)]

theorem UJ (l : List aD) : (jM l).1.length ≤ 1024 := by
  unfold jM
  split
  · simp
  · split
    · simp
    · exact VN _

theorem HN {by1 : List aD → List aD × Int} : ∀ {gs hs : List (List aH × List aD)} {out : List aB}, gs.map (fun g => (g.1, by1 g.2)) = hs.map (fun g => (g.1, by1 g.2)) → qN by1 gs out = qN by1 hs out
  | [], [], _, _ => rfl
  | [], _ :: _, _, h => by simp at h
  | _ :: _, [], _, h => by simp at h
  | g :: gs, k :: hs, out, h => by
    simp only [List.map_cons, List.cons.injEq, Prod.mk.injEq] at h
    obtain ⟨⟨h1, h2⟩, h3⟩ := h
    unfold qN
    rw [h1, h2]
    split
    · rfl
    · split
      · rfl
      · exact HN h3

theorem PD {l l' : List aB} (hp : l'.Perm l) (hs : Srt leE l') : (groups l').map (fun g => (g.1, jM g.2)) = (wG l).map (fun g => (g.1, jM g.2)) := by
  have h1 : (groups l').map (fun g => (g.1, jM g.2)) = ((groups l').map (·.1)).map (fun r => (r, jM (cA l r))) := by
    rw [List.map_map]
    apply List.map_congr_left
    intro g hg
    have hj : g.2 = cA l' g.1 := by rw [← tR (tU hs), yZ (tU hs) hg]
    simp only [Function.comp]
    rw [hj, SL (LX hp g.1)]
  rw [h1, OZ hp hs, wG, List.map_map]
  rfl

def fS (l : List aB) : List aB × Int := if l.any unE then ([], 2) else if l.any AI then ([], 13) else qN jM (wG l) []

theorem QI {l : List aB} (h : l.any unE = false) : ∀ e ∈ l, pT e.Row = true ∧ e.Net ≤ 1048576 ∧ -1048576 ≤ e.Net := by
  intro e he
  have := List.any_eq_false.1 h e he
  simp only [unE, Bool.or_eq_true, not_or, Bool.not_eq_true', decide_eq_true_eq, Bool.not_eq_false, Bool.not_eq_true] at this
  exact ⟨by simpa using this.1.1, by omega, by omega⟩

theorem GK {l : List aB} (hl : okL l) (hn : l.length ≤ 1099511627776) : qE l = some (fS l) := by
  unfold qE fS
  rw [EM (g := unE) hn (fun x _ => by simp [rN, FB, unE])]
  simp only [Option.bind_some]
  cases h1 : l.any unE
  · rw [EM (f := fun y0 => rR y0) (g := AI) hn (fun x _ => rfl)]
    simp only [cond_false, Option.bind_some, Bool.false_eq_true, if_false]
    cases h2 : l.any AI
    · simp only [cond_false, Bool.false_eq_true, if_false]
      have hc : fC l = some l := by unfold fC; exact bC ⟨by omega, by omega⟩
      obtain ⟨r, r1, r2, r3⟩ := aAL hn (fun e he => (QI h1 e he).1)
      rw [hc]
      simp only [Option.bind_some]
      rw [r3]
      simp only [Option.bind_some]
      have hr : okL r := ⟨by rw [r1.length_eq]; exact hl.1, fun e he => hl.2 e (r1.mem_iff.1 he)⟩
      rw [UE hr (by1 := jM) (fun g hg => ⟨by
        unfold rQ
        have hgl : g.2.length ≤ 1099511627776 := by
          have h3 : g.2 = cA r g.1 := by rw [← tR (tU r2), yZ (tU r2) hg]
          rw [h3, cA, List.length_map]
          exact Nat.le_trans (List.length_filter_le _ _) (by rw [r1.length_eq]; exact hn)
        rw [norm_eq hgl]; rfl, UJ _, TA hr hg⟩)]
      simp only [Option.bind_some]
      rw [HN (PD r1 r2)]
    · simp
  · simp

theorem JT : jM [] = ([], 0) := rfl

theorem BY {l : List aB} (h : (fS l).2 = 0) : l.any unE = false ∧ l.any AI = false ∧ (∀ g ∈ wG l, (jM g.2).2 = 0) ∧ (fS l).1 = flat (tZ jM (wG l)) ∧ (fS l).1.length ≤ 4096 := by
  unfold fS at h ⊢
  cases h1 : l.any unE
  · rw [h1] at h
    simp only [Bool.false_eq_true, if_false] at h ⊢
    cases h2 : l.any AI
    · rw [h2] at h
      simp only [Bool.false_eq_true, if_false] at h ⊢
      obtain ⟨a, b, c⟩ := QA (by simp) h
      exact ⟨trivial, trivial, a, by simpa using b, c⟩
    · rw [h2] at h; simp at h
  · rw [h1] at h; simp at h

theorem RI {l : List aB} (h : (fS l).2 = 0) (r : List aH) : look (groups (fS l).1) r = (jM (cA l r)).1 := by
  obtain ⟨_, _, _, h4, _⟩ := BY h
  rw [h4, SY (GY (GW l)), DM (by rw [JT]), zT]

theorem HD {f : List aD} (h : (jM f).2 = 0) : f.any sY = false ∧ f.any xR = false ∧ pM (vP f) = true ∧ jM f = (vP f, 0) := by
  unfold jM at h ⊢
  cases h1 : f.any sY
  · rw [h1] at h
    simp only [Bool.false_eq_true, if_false] at h ⊢
    cases h2 : f.any xR
    · rw [h2] at h
      simp only [Bool.false_eq_true, if_false] at h ⊢
      unfold told at h ⊢
      cases h3 : pM (vP f)
      · rw [h3] at h; simp at h
      · simp
    · rw [h2] at h; simp at h
  · rw [h1] at h; simp at h

theorem KA {l : List aB} (h : (fS l).2 = 0) (r : List aH) : (jM (cA l r)).2 = 0 := by
  obtain ⟨_, _, h3, _, _⟩ := BY h
  rcases BZ (wG l) r with ⟨e, _⟩ | ⟨g, hg, _, e⟩
  · rw [zT] at e; rw [e]; rfl
  · rw [zT] at e; rw [e]; exact h3 g hg

theorem zV {l : List aB} (h : (fS l).2 = 0) : oD (fS l).1 = true := by
  obtain ⟨h1, _, h3, h4, h5⟩ := BY h
  rw [h4] at h5 ⊢
  refine TF (GY (GW l)) (fun g hg => ?_) h5
  obtain ⟨q, hq, rfl⟩ := List.mem_map.1 hg
  have h6 := HD (h3 q hq)
  obtain ⟨r, hr, rfl⟩ := List.mem_map.1 hq
  obtain ⟨e, he, rfl⟩ := wH.1 hr
  exact ⟨(QI h1 e he).1, by rw [h6.2.2.2]; exact h6.2.2.1⟩

theorem RN {l : List aB} (h : (fS l).2 ≠ 0) : (fS l).1 = [] := by
  unfold fS at h ⊢
  split
  · rfl
  · rename_i h1
    rw [if_neg h1] at h
    split
    · rfl
    · rename_i h2
      rw [if_neg h2] at h
      exact MP h

end Go.Abs
namespace Go.Abs
open Go
theorem UI {ls : List (List aB)} (hl : ls.length ≤ 1000) (hb : ∀ l ∈ ls, l.length ≤ 1000000) : lp (fun s : Int × Int => cD ls ls (ls.length : Nat) s.1 s.2) (0, 0) = some (((ls.map List.length).sum : Nat) : Int) := by
  have := wP (l := ls) (body := fun s : Int × Int => cD ls ls (ls.length : Nat) s.1 s.2) (fun (n : Nat) i => ((n : Int), i)) (fun n r => ((n + (r.map List.length).sum : Nat) : Int)) (fun n r => n + 1000000 * r.length ≤ 1000000000 ∧ ∀ x ∈ r, x.length ≤ 1000000) 0 ?_ ?_ ⟨by omega, hb⟩
  · simpa using this
  · rintro i a r n ha ⟨h1, h2⟩
    left
    obtain ⟨d1, d2, d3, d4⟩ := idx ha (by omega)
    simp only [List.length_cons] at h1
    have h3 := h2 a (by simp)
    have hw : IntKind.i64.wrap ((n : Int) + ((a.length : Nat) : Int)) = ((n + a.length : Nat) : Int) := by rw [jL (by omega) (by omega)]; omega
    refine ⟨n + a.length, ?_, ⟨by omega, fun x hx => h2 x (by simp [hx])⟩, by simp; omega⟩
    show cD _ _ _ _ _ = _
    have hz : decide (((n + a.length : Nat) : Int) < 0) = false := by simp; omega
    simp only [cD, d1, cond_true, bC d2, d3, d4, hw, hz, cond_false]
  · rintro n _
    show cD _ _ _ _ _ = _
    simp only [cD, jF, cond_false]
    simp

theorem ZH {n : Nat} (h : n ≤ 1000000000) : fF (n : Int) = some [] := by
  unfold fF
  have h1 : decide ((n : Int) < 0) = false := by simp
  have w0 : IntKind.i64.wrap ((0 : Int) - ((0 : Nat) : Int)) = 0 := by rw [jL] <;> omega
  have w1 : IntKind.i64.wrap ((n : Int) - 0) = (n : Int) := by rw [jL (by omega) (by omega)]; omega
  simp only [h1, cond_false, w0, w1]
  by_cases h2 : (0 : Int) < (n : Int)
  · rw [decide_eq_true h2, cond_true, bC ⟨by omega, by omega⟩, bC ⟨by omega, by simp only [Int.toNat_natCast]; omega, by omega⟩, bC ⟨by omega, by omega⟩]
    rfl
  · rw [decide_eq_false h2, cond_false]; rfl

theorem TL {ls : List (List aB)} (hl : ls.length ≤ 1000) (hb : ∀ l ∈ ls, l.length ≤ 1000000) : lp (fun s : List aB × Int => cE ls (ls.length : Nat) s.1 s.2) ([], 0) = some ls.flatten := by
  have := wP (l := ls) (body := fun s : List aB × Int => cE ls (ls.length : Nat) s.1 s.2) (fun o i => (o, i)) (fun o r => o ++ r.flatten) (fun o r => o.length + 1000000 * r.length ≤ 1000000000 ∧ ∀ x ∈ r, x.length ≤ 1000000) [] ?_ ?_ ⟨by simp; omega, hb⟩
  · simpa using this
  · rintro i a r o ha ⟨h1, h2⟩
    left
    obtain ⟨d1, d2, d3, d4⟩ := idx ha (by omega)
    simp only [List.length_cons] at h1
    have h3 := h2 a (by simp)
    refine ⟨o ++ a, ?_, ⟨by simp; omega, fun x hx => h2 x (by simp [hx])⟩, by simp⟩
    show cE _ _ _ _ = _
    simp only [cE, d1, cond_true, bC d2, d3, d4]
    exact bC ⟨by omega, by omega⟩
  · rintro o _
    show cE _ _ _ _ = _
    simp only [cE, jF, cond_false]
    simp

theorem SZ {a b : List aB} (ha : a.length ≤ 1000000) (hb : b.length ≤ 1000000) : eM [a, b] = some (a ++ b) := by
  have hx : ∀ l ∈ [a, b], l.length ≤ 1000000 := by simp [ha, hb]
  unfold eM gN
  rw [UI (by simp) hx]
  simp only [Option.bind_some, eD]
  rw [ZH (by simp; omega)]
  simp only [Option.bind_some, gO]
  rw [TL (by simp) hx]
  simp [eF]

def AJ (a b : List aB) : List aB × Int := if oD a && oD b then fS (a ++ b) else ([], 2)

theorem yE {a b : List aB} (ha : okL a) (hb : okL b) (h : a.length + b.length ≤ 3518437208783) : okL (a ++ b) :=
  ⟨by simpa using h, fun e he => by
    rcases List.mem_append.1 he with h | h
    · exact ha.2 e h
    · exact hb.2 e h⟩

theorem ZQ {a b : List aB} (ha : okL a) (hb : okL b) : vY a b = some (AJ a b) := by
  unfold vY AJ
  rw [IY ha]
  cases h1 : oD a
  · simp [hU]
  · simp only [Option.bind_some, Bool.not_true, Bool.not_false, hU, cond_true, IY hb, Bool.false_or]
    cases h2 : oD b
    · simp
    · have la := (tT h1).1
      have lb := (tT h2).1
      simp only [Bool.not_true, cond_false, Bool.and_self, if_true]
      rw [SZ (by omega) (by omega)]
      simp only [Option.bind_some]
      rw [GK (yE ha hb (by omega)) (by simp; omega)]
      rfl

end Go.Abs
namespace Go.Abs
open Go
theorem wL : okL [] := ⟨by simp, by simp⟩

theorem WE {gs : List (List aH × List aD)} (h : ∀ g ∈ gs, g.1.length ≤ 4398046510976) (hl : (flat gs).length ≤ 4096) : okL (flat gs) := by
  refine ⟨by omega, fun e he => ?_⟩
  obtain ⟨g, hg, h1⟩ := List.mem_flatMap.1 he
  obtain ⟨j, _, rfl⟩ := List.mem_map.1 h1
  exact h g hg

theorem JP {l : List aB} (hl : okL l) : okL (fS l).1 := by
  by_cases h : (fS l).2 = 0
  · obtain ⟨_, _, _, h4, h5⟩ := BY h
    rw [h4] at h5 ⊢
    refine WE (fun g hg => ?_) h5
    obtain ⟨q, hq, rfl⟩ := List.mem_map.1 hg
    obtain ⟨r, hr, rfl⟩ := List.mem_map.1 hq
    obtain ⟨e, he, rfl⟩ := wH.1 hr
    exact hl.2 e he
  · rw [RN h]; exact wL

end Go.Abs
namespace Go.Abs
open Go
theorem XI {l a : List aB} (hu : l.any unE = false) (ho : l.any AI = false) (ma : oD a = true) (h : ∀ r, jM (cA l r) = (cA a r, 0)) : fS l = (a, 0) := by
  obtain ⟨h1, _, h3⟩ := tT ma
  have hs := GY (by1 := jM) (GW l)
  have hf : flat (tZ jM (wG l)) = a := by
    rw [← vE]
    conv => rhs; rw [← uK a]
    rw [RB (gs := AR (tZ jM (wG l))) (hs := groups a) (hs.filter _) h3 (KR _) (OW a) fun r => ?_]
    have h4 := qO (gs := AR (tZ jM (wG l))) (hs.filter _) r
    rw [← h4, vE, qO hs, DM (by rw [JT]), zT, h r, tR h3]
  unfold fS
  rw [if_neg (by simp [hu]), if_neg (by simp [ho]), NN (fun g hg => ?_) (by simpa [hf] using h1), hf]
  · rfl
  · obtain ⟨r, _, rfl⟩ := List.mem_map.1 hg
    simp only
    rw [h r]

theorem BN {l : List aB} (hm : oD l = true) {e : aB} (he : e ∈ l) : pT e.Row = true ∧ -2 < e.At ∧ e.At < 1125899906842624 ∧ e.Net ≠ 0 ∧ e.Net ≤ 1048576 ∧ -1048576 ≤ e.Net := by
  obtain ⟨_, h2, _⟩ := tT hm
  have he' : e ∈ flat (groups l) := by rw [uK]; exact he
  obtain ⟨g, hg, h1⟩ := List.mem_flatMap.1 he'
  obtain ⟨j, hj, rfl⟩ := List.mem_map.1 h1
  obtain ⟨a, b⟩ := h2 g hg
  exact ⟨a, (vD.1 b).2.above j hj⟩

theorem yB {l : List aB} (hm : oD l = true) (r : List aH) : pM (cA l r) = true := by
  rw [← tR (tT hm).2.2]; exact UO hm r

theorem VV {f h : List aD} (h1 : f.any sY = false) (h2 : f.any xR = false) (hh : pM h = true) (hv : ∀ t, -2 < t → t < 1125899906842624 → val h t = val f t) : jM f = (h, 0) := by
  unfold jM
  rw [if_neg (by simp [h1]), if_neg (by simp [h2]), HA (fun j hj => (wO h2 j hj).1) (aAn hh) hv]
  unfold told
  rw [if_pos hh]

end Go.Abs
namespace Go.Abs
open Go
abbrev ltE (x y : aB) : Prop := jJ x.Row y.Row < 0 ∨ (x.Row = y.Row ∧ x.At < y.At)

theorem zQ : ∀ {f : List aD} {last : Int}, wN last f ↔ (∀ j ∈ f, BL last j = false) ∧ f.Pairwise fun a b => a.At < b.At
  | [], last => by simp [wN]
  | j :: f, last => by
    rw [List.pairwise_cons]
    unfold wN
    rw [← oM]
    constructor
    · rintro ⟨h1, h2⟩
      have h3 := zQ.1 h2
      have h4 := oM.1 h1
      refine ⟨fun k hk => ?_, fun k hk => (oM.1 (h3.1 k hk)).1, h3.2⟩
      rcases List.mem_cons.1 hk with rfl | hk
      · exact h1
      · have := oM.1 (h3.1 k hk)
        exact oM.2 (by omega)
    · rintro ⟨h1, h2, h3⟩
      refine ⟨h1 j (by simp), zQ.2 ⟨fun k hk => ?_, h3⟩⟩
      have := oM.1 (h1 k (by simp [hk]))
      have := h2 k hk
      exact oM.2 (by omega)

theorem MT {l : List aB} : oD l = true ↔ l.length ≤ 4096 ∧ (∀ e ∈ l, pT e.Row = true ∧ BL (-2) (jE e) = false) ∧ l.Pairwise ltE ∧ ∀ r ∈ rowsOf l, (cA l r).length ≤ 1024 := by
  constructor
  · intro h
    obtain ⟨h1, h2, h3⟩ := tT h
    refine ⟨h1, fun e he => ?_, ?_, fun r _ => (vD.1 (yB h r)).1⟩
    · obtain ⟨a, b, c, d, e1, e2⟩ := BN h he
      exact ⟨a, oM.2 ⟨b, c, d, e1, e2⟩⟩
    · rw [← uK l]
      unfold flat
      rw [List.flatMap, List.pairwise_flatten, List.pairwise_map]
      constructor
      · intro x hx
        obtain ⟨g, hg, rfl⟩ := List.mem_map.1 hx
        have := (zQ.1 (vD.1 (h2 g hg).2).2).2
        rw [iI, List.pairwise_map]
        exact this.imp fun h => .inr ⟨rfl, h⟩
      · refine h3.imp fun {a b} h x hx y hy => ?_
        obtain ⟨j, _, rfl⟩ := List.mem_map.1 hx
        obtain ⟨k, _, rfl⟩ := List.mem_map.1 hy
        exact .inl h
  · rintro ⟨h1, h2, h3, h4⟩
    have hs : Srt leE l := h3.imp fun h => by
      rcases h with h | ⟨h, h'⟩
      · exact .inl h
      · exact .inr ⟨h, by omega⟩
    have hg := tU hs
    unfold oD
    rw [Bool.and_eq_true]
    refine ⟨by simpa using h1, AB.2 ⟨fun g hg' => ?_, hg, fun q hq => by cases hq⟩⟩
    obtain ⟨_, e, he, h5⟩ := yD hg'
    have hj : g.2 = cA l g.1 := by rw [← tR hg, yZ hg hg']
    refine ⟨by rw [h5]; exact (h2 e he).1, ?_⟩
    rw [hj]
    refine vD.2 ⟨h4 _ (wH.2 ⟨e, he, h5.symm⟩), zQ.2 ⟨fun j hj => ?_, ?_⟩⟩
    · obtain ⟨e, he, rfl⟩ := List.mem_map.1 hj
      exact (h2 e (List.mem_filter.1 he).1).2
    · unfold cA
      rw [List.pairwise_map, List.pairwise_filter]
      refine h3.imp fun {a b} h ha hb => ?_
      rcases h with h | ⟨_, h⟩
      · simp only [decide_eq_true_eq] at ha hb
        rw [ha, hb] at h
        exact absurd h oK
      · exact h

end Go.Abs
namespace Go.Abs
open Go
theorem PI {l : List aB} (h : (fS l).2 = 0) (r : List aH) : cA (fS l).1 r = vP (cA l r) := by
  rw [← tR (tT (zV h)).2.2, RI h, (HD (KA h r)).2.2.2]

theorem NM {l : List aB} (h : (fS l).2 = 0) (r : List aH) : ∀ j ∈ cA l r, -2 < j.At :=
  fun j hj => (wO (HD (KA h r)).2.1 j hj).1

theorem DK {l : List aB} (h : (fS l).2 = 0) (r : List aH) {t : Int} (h1 : -2 < t) (h2 : t < 1125899906842624) : val (cA (fS l).1 r) t = val (cA l r) t := by
  rw [PI h, JQ (NM h r) h1 h2]

end Go.Abs
namespace Go.Abs
open Go
theorem aAE {l : List aB} (m : ∀ a ∈ l, rW a) (y : List.length l * 40 ≤ 140737488351232) : okL l :=
  ⟨by omega, fun e he => by have := (m e he).1.2; omega⟩

end Go.Abs
namespace Go.Abs
open Go
def okI (x : aY) : Prop := (0 ≤ x.clock ∧ x.clock ≤ 1125899906842624) ∧ oD x.held = true ∧ okL x.held

def okX (xs : List aY) : Prop := xs.length ≤ 8 ∧ ∀ x ∈ xs, okI x

def gI (xs : List aY) (k : Int) : aY := xs.getD (Int.toNat k) default

def sG (xs : List aY) (k : Int) : Prop := k < 0 ∨ ((xs.length : Nat) : Int) ≤ k

instance (xs : List aY) (k : Int) : Decidable (sG xs k) := by unfold sG; infer_instance

def CJ (xs : List aY) (k : Int) (l : List aB) : Int × List aY :=
  if sG xs k then (3, xs) else if !oD l then (2, xs) else if l.any (fun e => decide (e.At < (gI xs k).clock)) then (16, xs)
  else if (AJ (gI xs k).held l).2 ≠ 0 then ((AJ (gI xs k).held l).2, xs) else (0, xs.set (Int.toNat k) ⟨(gI xs k).clock, (AJ (gI xs k).held l).1⟩)

def vX (xs : List aY) (k t : Int) : Int × List aY :=
  if sG xs k then (3, xs) else if t < 0 ∨ 1125899906842624 < t then (13, xs) else if t < (gI xs k).clock then (16, xs) else (0, xs.set (Int.toNat k) ⟨t, (gI xs k).held⟩)

def WY (xs : List aY) (t : Int) : Int := xs.foldl (fun t x => min t x.clock) t

def tJ (xs : List aY) : Int := WY xs 1125899906842624

def nC (t : Int) (x : aY) : List aB := x.held.filter fun e => decide (e.At < t)

def lU (t : Int) (x : aY) : aY := ⟨x.clock, x.held.filter fun e => !decide (e.At < t)⟩

def II (xs : List aY) (n : Int) : Int := xs.foldl (fun n x => n + ((x.held.length : Nat) : Int)) n

theorem vB {l : List aB} (h : oD l = true) : l.length ≤ 4096 := (tT h).1

theorem ZZ {xs : List aY} {k : Int} (h : ¬ sG xs k) : gI xs k ∈ xs := by
  unfold sG at h
  unfold gI
  rw [List.getD_eq_getElem?_getD, List.getElem?_eq_getElem (by omega)]
  exact List.getElem_mem _

theorem HG (xs : List aY) (k : Int) : nG ⟨xs⟩ k = some (if sG xs k then 3 else 0) := by
  unfold nG
  by_cases h : sG xs k
  · rw [if_pos h]
    unfold sG at h
    have : (decide (k < (0 : Int)) || decide ((lN xs) ≤ k)) = true := by simpa using h
    simp only [this, cond_true]
  · rw [if_neg h]
    unfold sG at h
    have : (decide (k < (0 : Int)) || decide ((lN xs) ≤ k)) = false := by
      show (decide (k < (0 : Int)) || decide (((xs.length : Nat) : Int) ≤ k)) = false
      simp; omega
    simp only [this, cond_false]
    rw [bC (show 0 ≤ k ∧ k < lN xs by show 0 ≤ k ∧ k < ((xs.length : Nat) : Int); omega)]

theorem UY {l : List aB} (hl : l.length < 4611686018427387904) {f : aB → Bool} {g : Unit → aB → Option (Unit × Bool)} (hg : ∀ y, g () y = some ((), f y)) : ∀ (r : List aB) (k : Nat), l.drop k = r → k ≤ l.length →
    ∃ z : Int, (lp (fun s : Unit × Int => cH g l ((l.length : Nat) : Int) s.1 s.2) ((), ((k : Nat) : Int))).bind (Sum.elim (fun rr => dG g rr) (fun rr => some (rr.1, rr.2))) = some ((), z) ∧ decide ((0 : Int) ≤ z) = r.any f
  | [], k, hd, hk => by
    have : k = l.length := by
      have := congrArg List.length hd
      simp at this; omega
    subst this
    refine ⟨-1, ?_, rfl⟩
    rw [cK (r := .inl ()) (by simp only [cH, jF, cond_false])]
    rfl
  | a :: r, k, hd, hk => by
    have ha : l[k]? = some a := by
      have := congrArg (fun L : List aB => L[0]?) hd
      simpa using this
    have hlt : k < l.length := (List.getElem?_eq_some_iff.1 ha).1
    have hd' : l.drop (k + 1) = r := by
      have := congrArg List.tail hd
      simpa using this
    obtain ⟨d1, d2, d3, d4⟩ := idx ha hl
    cases hf : f a with
    | true =>
      refine ⟨((k : Nat) : Int), ?_, by simp [hf]⟩
      rw [cK (r := .inr ((), ((k : Nat) : Int))) (by simp only [cH, d1, cond_true, bC d2, d3, hg, Option.bind_some, hf])]
      rfl
    | false =>
      obtain ⟨z, h1, h2⟩ := UY hl hg r (k + 1) hd' (by omega)
      refine ⟨z, ?_, by rw [h2]; simp [hf]⟩
      rw [eP (s' := ((), ((k + 1 : Nat) : Int))) (by simp only [cH, d1, cond_true, bC d2, d3, hg, Option.bind_some, hf, cond_false, d4])]
      exact h1

theorem TM {l : List aB} (hl : okL l) (xs : List aY) (k : Int) :
    cW l (fun (st : Unit) y0 => (lP xs k y0).bind fun o => some (st, o)) () = some ((), l.any fun e => decide (e.At < (gI xs k).clock)) := by
  unfold cW fD eT
  obtain ⟨z, h1, h2⟩ := UY (l := l) (by have := hl.1; omega) (f := fun e => decide (e.At < (gI xs k).clock)) (g := fun (st : Unit) y0 => (lP xs k y0).bind fun o => some (st, o)) (fun y => rfl) l 0 rfl (Nat.zero_le _)
  have h1' := h1
  simp only [Int.natCast_zero] at h1'
  rw [h1', Option.bind_some, h2]

theorem QZ {xs : List aY} (hx : okX xs) (k : Int) {l : List aB} (hl : okL l) : lF ⟨xs⟩ k l = some ((CJ xs k l).1, ⟨(CJ xs k l).2⟩) := by
  unfold lF CJ
  rw [HG, Option.bind_some]
  by_cases ho : sG xs k
  · rw [if_pos ho, if_pos ho]; rfl
  · rw [if_neg ho, if_neg ho, IY hl]
    simp only [decide_true, cond_true, Bool.not_true, cond_false, Option.bind_some]
    cases hm : oD l with
    | false => rfl
    | true =>
      simp only [Bool.not_true, cond_false, Bool.false_eq_true, if_false, TM hl, Option.bind_some]
      have hkI := hx.2 _ (ZZ ho)
      cases hc : l.any fun e => decide (e.At < (gI xs k).clock) with
      | true => simp
      | false =>
        simp only [cond_false, Bool.false_eq_true, if_false]
        have : List.getD xs (Int.toNat k) default = gI xs k := rfl
        rw [this, ZQ hkI.2.2 hl, Option.bind_some]
        by_cases he : (AJ (gI xs k).held l).2 = 0
        · rw [if_neg (by simpa using he), decide_eq_true he]; rfl
        · rw [if_pos he, decide_eq_false he]; rfl

theorem AD (xs : List aY) (k t : Int) : dZ ⟨xs⟩ k t = some ((vX xs k t).1, ⟨(vX xs k t).2⟩) := by
  unfold dZ vX
  rw [HG, Option.bind_some]
  by_cases ho : sG xs k
  · rw [if_pos ho, if_pos ho]; rfl
  · rw [if_neg ho, if_neg ho]
    simp only [decide_true, cond_true, Bool.not_true, cond_false]
    by_cases h1 : t < 0 ∨ 1125899906842624 < t
    · have : (decide (t < (0 : Int)) || decide ((1125899906842624 : Int) < t)) = true := by simpa using h1
      rw [this, cond_true, if_pos h1]
    · have : (decide (t < (0 : Int)) || decide ((1125899906842624 : Int) < t)) = false := by simp; omega
      rw [this, cond_false, if_neg h1]
      have hg : List.getD xs (Int.toNat k) default = gI xs k := rfl
      rw [hg]
      by_cases h2 : t < (gI xs k).clock
      · rw [decide_eq_true h2, cond_true, if_pos h2]
      · rw [decide_eq_false h2, cond_false, if_neg h2]

theorem DU {xs : List aY} (hx : xs.length ≤ 8) : eA ⟨xs⟩ = some (tJ xs) := by
  unfold eA oP
  have := wP (l := xs) (body := fun s : Int × Int => kQ ⟨xs⟩ ((xs.length : Nat) : Int) s.1 s.2) (fun (s : Int) i => (s, i)) (fun s r => WY r s) (fun _ _ => True) 1125899906842624 ?_ ?_ trivial
  · rw [this]; rfl
  · intro i a r s ha _
    left
    obtain ⟨d1, d2, d3, d4⟩ := idx ha (by omega)
    refine ⟨min s a.clock, ?_, trivial, rfl⟩
    simp only [kQ, d1, cond_true, bC d2, d3, d4]
    congr 3
    rw [Int.min_def]; split <;> split <;> omega
  · intro s _
    simp only [kQ, jF, cond_false]; rfl

theorem OA {xs : List aY} (hx : okX xs) : jO ⟨xs⟩ = some (II xs 0) := by
  unfold jO pQ
  have := wP (l := xs) (body := fun s : Int × Int => lO ⟨xs⟩ ((xs.length : Nat) : Int) s.1 s.2) (fun (s : Int) i => (s, i)) (fun s r => II r s) (fun s r => 0 ≤ s ∧ s + 4096 * r.length ≤ 1000000 ∧ ∀ x ∈ r, okI x) 0 ?_ ?_ ⟨by omega, by have := hx.1; omega, hx.2⟩
  · rw [this]; rfl
  · rintro i a r s ha ⟨h1, h2, h3⟩
    left
    have hx1 := hx.1
    obtain ⟨d1, d2, d3, d4⟩ := idx ha (by omega)
    simp only [List.length_cons] at h2
    have := vB (h3 a (by simp)).2.1
    refine ⟨s + ((a.held.length : Nat) : Int), ?_, ⟨by omega, by omega, fun x hx => h3 x (by simp [hx])⟩, rfl⟩
    have w1 : IntKind.i64.wrap (s + ((a.held.length : Nat) : Int)) = s + ((a.held.length : Nat) : Int) := jL (by omega) (by omega)
    simp only [lO, d1, cond_true, bC d2, d3, d4, w1]
  · intro s _
    simp only [lO, jF, cond_false]; rfl

theorem UL {h : List aB} (hl : h.length ≤ 4096) (k a b : Int) (A : aV) (out : List (List aB)) (t : Int) :
    lp (fun s : aV × List (List aB) × Int × List aB × List aB × Int => fV k a b h ((h.length : Nat) : Int) s.1 s.2.1 s.2.2.1 s.2.2.2.1 s.2.2.2.2.1 s.2.2.2.2.2) (A, out, t, [], [], 0) =
      some (A, out, t, h.filter (fun e => decide (e.At < t)), h.filter fun e => !decide (e.At < t)) := by
  refine wP (l := h) (fun (s : List aB × List aB) i => (A, out, t, s.1, s.2, i)) (fun s r => (A, out, t, s.1 ++ r.filter (fun e => decide (e.At < t)), s.2 ++ r.filter fun e => !decide (e.At < t))) (fun s r => s.1.length + s.2.length + r.length ≤ 4096) ([], []) ?_ ?_ (by simpa using hl)
  · rintro i e r ⟨s1, s2⟩ he hI
    left
    simp only [List.length_cons] at hI
    obtain ⟨d1, d2, d3, d4⟩ := idx he (by omega)
    by_cases hc : e.At < t
    · refine ⟨(s1 ++ [e], s2), ?_, by simp only [List.length_append, List.length_cons, List.length_nil]; omega, by simp [hc]⟩
      simp only [fV, gY, d1, cond_true, bC d2, d3, d4, decide_eq_true hc]
      rw [bC (by simp only [List.length_cons, List.length_nil]; omega)]
      rfl
    · refine ⟨(s1, s2 ++ [e]), ?_, by simp only [List.length_append, List.length_cons, List.length_nil]; omega, by simp [hc]⟩
      simp only [fV, gY, d1, cond_true, bC d2, d3, d4, decide_eq_false hc, cond_false]
      rw [bC (by simp only [List.length_cons, List.length_nil]; omega)]
      rfl
  · rintro ⟨s1, s2⟩ _
    simp only [fV, jF, cond_false]; simp

theorem VL {α : Type} (d : α) (A : List α) (x : α) (r : List α) : (A ++ x :: r).getD A.length d = x := by
  simp [List.getD_eq_getElem?_getD]

theorem XK {α : Type} (A : List α) (x y : α) (r : List α) : (A ++ x :: r).set A.length y = (A ++ [y]) ++ r := by
  rw [List.set_append_right _ _ (Nat.le_refl _)]; simp

theorem KE (t : Int) {n : Nat} (hn : n ≤ 8) : ∀ (r pre : List aY), (∀ x ∈ r, okI x) → pre.length + r.length = n →
    lp (fun s : aV × List (List aB) × Int × Int => fT ((n : Nat) : Int) s.1 s.2.1 s.2.2.1 s.2.2.2) (⟨pre.map (lU t) ++ r⟩, pre.map (nC t), t, ((pre.length : Nat) : Int)) = some (⟨(pre ++ r).map (lU t)⟩, (pre ++ r).map (nC t))
  | [], pre, _, hl => by
    simp only [List.length_nil, Nat.add_zero] at hl
    subst hl
    refine cK ?_
    simp only [fT, jF, cond_false, List.append_nil]
  | x :: r, pre, hr, hl => by
    simp only [List.length_cons] at hl
    have hx := hr x (by simp)
    have hlen := vB hx.2.1
    have d1 : decide (((pre.length : Nat) : Int) < ((n : Nat) : Int)) = true := by simp; omega
    have hg : List.getD (pre.map (lU t) ++ x :: r) (Int.toNat ((pre.length : Nat) : Int)) default = x := by
      have := VL default (pre.map (lU t)) x r
      rw [List.length_map] at this
      rw [Int.toNat_natCast]; exact this
    have hs : List.set (pre.map (lU t) ++ x :: r) (Int.toNat ((pre.length : Nat) : Int)) (lU t x) = (pre ++ [x]).map (lU t) ++ r := by
      have := XK (pre.map (lU t)) x (lU t x) r
      rw [List.length_map] at this
      rw [Int.toNat_natCast, this]; simp
    have w1 : IntKind.i64.wrap (((pre.length : Nat) : Int) + 1) = (((pre ++ [x]).length : Nat) : Int) := by
      rw [jL (by omega) (by omega)]; simp
    have hb : fT ((n : Nat) : Int) ⟨pre.map (lU t) ++ x :: r⟩ (pre.map (nC t)) t ((pre.length : Nat) : Int) = some (.inl (⟨(pre ++ [x]).map (lU t) ++ r⟩, (pre ++ [x]).map (nC t), t, (((pre ++ [x]).length : Nat) : Int))) := by
      simp only [fT, d1, cond_true]
      rw [bC (by simp only [List.length_append, List.length_map, List.length_cons]; omega)]
      unfold nP
      rw [hg, UL hlen, Option.bind_some]
      unfold lR nR
      rw [bC (by simp only [List.length_append, List.length_map, List.length_cons]; omega), bC (by simp only [List.length_append, List.length_map, List.length_cons, List.length_nil]; omega)]
      simp only [hg]
      rw [show (aY.mk x.clock (x.held.filter fun e => !decide (e.At < t))) = lU t x from rfl, hs, w1]
      simp [nC]
    rw [eP hb, KE t hn r (pre ++ [x]) (fun y hy => hr y (by simp [hy])) (by simp only [List.length_append, List.length_cons, List.length_nil]; omega)]
    simp

theorem AQ {xs : List aY} (hx : okX xs) : dI ⟨xs⟩ = some (xs.map (nC (tJ xs)), ⟨xs.map (lU (tJ xs))⟩) := by
  unfold dI nT
  rw [DU hx.1, Option.bind_some]
  have := KE (tJ xs) hx.1 xs [] hx.2 (by simp)
  simp only [List.map_nil, List.nil_append, List.length_nil, Int.natCast_zero] at this
  rw [this]
  rfl

end Go.Abs
namespace Go.Abs
open Go
def NV (n : Nat) : List aY := List.replicate n ⟨0, []⟩

theorem FU {n : Int} (h0 : 1 ≤ n) (h1 : n ≤ 8) : rU n = some (some ⟨NV (Int.toNat n)⟩, 0) := by
  unfold rU
  have : (decide (n < (1 : Int)) || decide ((8 : Int) < n)) = false := by simp; omega
  rw [this, cond_false, bC (by omega)]
  rfl

theorem yW : oD [] = true := by decide +kernel

theorem YX {n : Nat} (h : n ≤ 8) : okX (NV n) := by
  refine ⟨by simp [NV]; exact h, fun x hx => ?_⟩
  rw [List.eq_of_mem_replicate hx]
  exact ⟨by simp only; omega, yW, by constructor <;> simp⟩

end Go.Abs
namespace Go.Abs
open Go
theorem FO {l : List aB} (h : oD l = true) (p : aB → Bool) : oD (l.filter p) = true := by
  obtain ⟨h1, h2, h3, h4⟩ := MT.1 h
  refine MT.2 ⟨Nat.le_trans (List.length_filter_le ..) h1, fun e he => h2 e (List.mem_filter.1 he).1, h3.filter _, fun r _ => ?_⟩
  have hs : (cA (l.filter p) r).Sublist (cA l r) := by
    unfold cA
    exact (List.filter_sublist.filter _).map _
  exact Nat.le_trans hs.length_le (vD.1 (yB h r)).1

theorem CH {l : List aB} (h : okL l) (p : aB → Bool) : okL (l.filter p) :=
  ⟨Nat.le_trans (List.length_filter_le ..) h.1, fun e he => h.2 e (List.mem_filter.1 he).1⟩

def e16 : aB := ⟨[⟨1, 1, ByteArray.empty⟩], 2, 1⟩

theorem UK : okL [e16] := ⟨by decide, by decide⟩

theorem aAW : CJ (NV 2) 0 [e16] = (0, [⟨0, [e16]⟩, ⟨0, []⟩]) := by decide +kernel

theorem YQ : vX [⟨0, [e16]⟩, ⟨0, []⟩] 0 5 = (0, [⟨5, [e16]⟩, ⟨0, []⟩]) := by decide +kernel

theorem VP : vX [⟨5, [e16]⟩, ⟨0, []⟩] 1 3 = (0, [⟨5, [e16]⟩, ⟨3, []⟩]) := by decide +kernel

theorem VD {a b : Int} (ha : 0 ≤ a ∧ a ≤ 1125899906842624) (hb : 0 ≤ b ∧ b ≤ 1125899906842624) : okX [⟨a, [e16]⟩, ⟨b, []⟩] := by
  have m : oD [e16] = true := by decide +kernel
  refine ⟨by simp, fun x hx => ?_⟩
  simp only [List.mem_cons, List.not_mem_nil, or_false] at hx
  rcases hx with rfl | rfl
  · exact ⟨ha, m, UK⟩
  · exact ⟨hb, yW, wL⟩

theorem KG : qT = some true := by
  unfold qT
  rw [FU (by decide) (by decide), Option.bind_some]
  have k2 := YX (n := 2) (by decide)
  have hn : Int.toNat (2 : Int) = 2 := rfl
  simp only [hn]
  have h1 := QZ k2 0 UK
  rw [aAW] at h1
  simp only [e16] at h1
  rw [h1, Option.bind_some]
  have h2 := AD [⟨0, [e16]⟩, ⟨0, []⟩] 0 5
  rw [YQ] at h2
  simp only [e16] at h2
  rw [h2, Option.bind_some]
  have h3 := AQ (VD (a := 5) (b := 0) (by decide) (by decide))
  have h3a : [(⟨5, [e16]⟩ : aY), ⟨0, []⟩].map (nC (tJ [⟨5, [e16]⟩, ⟨0, []⟩])) = [[], []] := by decide +kernel
  have h3b : [(⟨5, [e16]⟩ : aY), ⟨0, []⟩].map (lU (tJ [⟨5, [e16]⟩, ⟨0, []⟩])) = [⟨5, [e16]⟩, ⟨0, []⟩] := by decide +kernel
  rw [h3a, h3b] at h3
  simp only [e16] at h3
  rw [h3, Option.bind_some]
  have h4 := AD [⟨5, [e16]⟩, ⟨0, []⟩] 1 3
  rw [VP] at h4
  simp only [e16] at h4
  rw [h4, Option.bind_some]
  have h5 := AQ (VD (a := 5) (b := 3) (by decide) (by decide))
  have h5a : [(⟨5, [e16]⟩ : aY), ⟨3, []⟩].map (nC (tJ [⟨5, [e16]⟩, ⟨3, []⟩])) = [[e16], []] := by decide +kernel
  have h5b : [(⟨5, [e16]⟩ : aY), ⟨3, []⟩].map (lU (tJ [⟨5, [e16]⟩, ⟨3, []⟩])) = [⟨5, []⟩, ⟨3, []⟩] := by decide +kernel
  rw [h5a, h5b] at h5
  simp only [e16] at h5
  rw [h5, Option.bind_some]
  have k6 : okX [(⟨5, []⟩ : aY), ⟨3, []⟩] := ⟨by simp, fun x hx => by
    simp only [List.mem_cons, List.not_mem_nil, or_false] at hx
    rcases hx with rfl | rfl
    · exact ⟨by decide, yW, wL⟩
    · exact ⟨by decide, yW, wL⟩⟩
  have h6 := DU k6.1
  have h7 := OA k6
  have h6b : tJ [(⟨5, []⟩ : aY), ⟨3, []⟩] = 3 := by decide +kernel
  have h7b : II [(⟨5, []⟩ : aY), ⟨3, []⟩] 0 = 0 := by decide +kernel
  rw [h6b] at h6
  rw [h7b] at h7
  simp only []
  rw [bC (fun _ => by decide), bC (fun _ => by decide), bC (fun _ => by decide), bC (fun _ => by decide)]
  simp only [h6, h7]
  rfl

theorem RY {l : List cO} (hl : l.length < 4611686018427387904) : ∃ b, rI l = some b ∧ (b = true → l.length ≤ 60 ∧ ((l.map fun o => o.Edges.length).sum : Nat) + l.length ≤ 60) := by
  unfold rI tP
  have key : ∀ (r : List cO) (k : Nat) (n : Int), l.drop k = r → k ≤ l.length → 0 ≤ n → n ≤ ((l.length : Nat) : Int) + 121 →
      ∃ z : Int, lp (fun s : Int × Int => nJ l s.1 s.2) (n, ((k : Nat) : Int)) = some z ∧ (z ≤ 60 → n + (((r.map fun o => o.Edges.length).sum : Nat) : Int) ≤ 60) := by
    intro r
    induction r with
    | nil =>
      intro k n hd hk h0 h1
      have : k = l.length := by
        have := congrArg List.length hd
        simp at this; omega
      subst this
      refine ⟨n, cK (by simp only [nJ, jF, Bool.false_and, cond_false]), fun h => by simpa using h⟩
    | cons a r ih =>
      intro k n hd hk h0 h1
      have ha : l[k]? = some a := by
        have := congrArg (fun L : List cO => L[0]?) hd
        simpa using this
      have hd' : l.drop (k + 1) = r := by
        have := congrArg List.tail hd
        simpa using this
      have hlt : k < l.length := (List.getElem?_eq_some_iff.1 ha).1
      obtain ⟨d1, d2, d3, d4⟩ := idx ha hl
      by_cases hn : n ≤ 60
      · have hm : (if (61 : Int) < ((a.Edges.length : Nat) : Int) then (61 : Int) else ((a.Edges.length : Nat) : Int)) = min 61 ((a.Edges.length : Nat) : Int) := by rw [Int.min_def]; split <;> split <;> omega
        have w1 : IntKind.i64.wrap (n + min 61 ((a.Edges.length : Nat) : Int)) = n + min 61 ((a.Edges.length : Nat) : Int) := jL (by omega) (by omega)
        obtain ⟨z, h3, h4⟩ := ih (k + 1) (n + min 61 ((a.Edges.length : Nat) : Int)) hd' (by omega) (by omega) (by omega)
        refine ⟨z, ?_, fun hz => ?_⟩
        · rw [eP (s' := (n + min 61 ((a.Edges.length : Nat) : Int), ((k + 1 : Nat) : Int))) (by simp only [nJ, d1, decide_eq_true hn, Bool.and_self, cond_true, bC d2, d3, d4, hm, w1])]
          exact h3
        · have := h4 hz
          simp only [List.map_cons, List.sum_cons]
          omega
      · refine ⟨n, cK (by simp only [nJ, d1, decide_eq_false hn, Bool.and_false, cond_false]), fun h => absurd h hn⟩
  obtain ⟨z, h1, h2⟩ := key l 0 ((l.length : Nat) : Int) rfl (Nat.zero_le _) (by omega) (by omega)
  refine ⟨decide (z ≤ 60), ?_, fun hz => ?_⟩
  · have h1' := h1
    simp only [Int.natCast_zero] at h1'
    rw [h1', Option.bind_some]; rfl
  · have := h2 (by simpa using hz)
    omega

end Go.Abs
namespace Go.Abs
open Go
theorem CT {f : List aD} {t : Int} (h : ∀ j ∈ f, t < j.At) : val f t = 0 := by
  induction f with
  | nil => rfl
  | cons a f ih =>
    rw [dO, ih fun j hj => h j (by simp [hj])]
    have := h a (by simp)
    rw [if_neg (by omega)]; rfl

theorem KK : ∀ {f : List aD} {last : Int}, wN last f → ∀ j ∈ f, val f j.At = val f (j.At - 1) + j.Net
  | [], _, _, j, h => by simp at h
  | a :: f, last, hr, j, h => by
    obtain ⟨h1, h2⟩ := hr
    rw [dO, dO]
    rcases List.mem_cons.1 h with rfl | h
    · rw [CT fun k hk => (h2.above k hk).1, CT fun k hk => by have := (h2.above k hk).1; omega, if_pos (Int.le_refl _), if_neg (by omega)]; omega
    · have := (h2.above j h).1
      rw [KK h2 j h, if_pos (by omega), if_pos (by omega)]; omega

theorem BT {l : List aB} {r : List aH} {j : aD} (h : j ∈ cA l r) : ∃ e ∈ l, e.Row = r ∧ jE e = j := by
  unfold cA at h
  obtain ⟨e, he, rfl⟩ := List.mem_map.1 h
  obtain ⟨h1, h2⟩ := List.mem_filter.1 he
  exact ⟨e, h1, by simpa using h2, rfl⟩

theorem VE {l : List aB} (h : (fS l).2 = 0) {was : Int} (w0 : 0 ≤ was) (w1 : was ≤ 1125899906842624) (hl : ∀ e ∈ l, was ≤ e.At) : ∀ e ∈ (fS l).1, was ≤ e.At := by
  intro e he
  apply Classical.byContradiction
  intro hn
  have hm := zV h
  have hR := (vD.1 (yB hm e.Row)).2
  have hj : jE e ∈ cA (fS l).1 e.Row := by
    unfold cA
    exact List.mem_map.2 ⟨e, List.mem_filter.2 ⟨he, by simp⟩, rfl⟩
  have zero : ∀ t, t < was → val (cA (fS l).1 e.Row) t = 0 := fun t ht => by
    by_cases h2 : t ≤ -2
    · exact CT fun j hj => by have := (hR.above j hj).1; omega
    · rw [DK h e.Row (by omega) (by omega)]
      refine CT fun j hj => ?_
      obtain ⟨q, hq, _, rfl⟩ := BT hj
      have := hl q hq
      simp only [jE]; omega
  have hs := KK hR _ hj
  have hat : (jE e).At = e.At := rfl
  rw [hat, zero e.At (by omega), zero (e.At - 1) (by omega)] at hs
  have := (hR.above _ hj).2.2.1
  omega

theorem FY (p : aB → Bool) (r : List aH) (t : Int) : ∀ l : List aB, val (cA l r) t = val (cA (l.filter p) r) t + val (cA (l.filter fun e => !p e) r) t
  | [] => rfl
  | e :: l => by
    have ih := FY p r t l
    have hc : ∀ x : List aB, val (cA (e :: x) r) t = (if e.Row = r then (if e.At ≤ t then e.Net else 0) else 0) + val (cA x r) t := fun x => by
      unfold cA
      by_cases h : e.Row = r
      · rw [List.filter_cons, if_pos (by simpa using h), List.map_cons, dO, if_pos h]; rfl
      · rw [List.filter_cons, if_neg (by simpa using h), if_neg h]; omega
    rw [hc l]
    cases hp : p e with
    | true =>
      have e1 : (e :: l).filter p = e :: l.filter p := by simp [hp]
      have e2 : ((e :: l).filter fun e => !p e) = l.filter fun e => !p e := by simp [hp]
      rw [e1, e2, hc, ih]; omega
    | false =>
      have e1 : (e :: l).filter p = l.filter p := by simp [hp]
      have e2 : ((e :: l).filter fun e => !p e) = e :: l.filter fun e => !p e := by simp [hp]
      rw [e1, e2, hc, ih]; omega

structure oR (x : aY) (put got : List aB) (was : Int) : Prop where
  ok : okI x
  w0 : 0 ≤ was
  w1 : was ≤ x.clock
  hw : ∀ e ∈ x.held, was ≤ e.At
  sum : ∀ r t, -2 < t → t < 1125899906842624 → val (cA put r) t = val (cA got r) t + val (cA x.held r) t
  fair : ∀ e ∈ got, unE e = false ∧ AI e = false
  kp : okL put
  kg : okL got

theorem WR {l : List aB} (h : oD l = true) : ∀ e ∈ l, unE e = false ∧ AI e = false := fun e he => by
  obtain ⟨h1, h2, h3, h4, h5, h6⟩ := BN h he
  unfold unE AI
  rw [h1]
  constructor
  · simp; omega
  · simp; omega

theorem YB {x : aY} {put got : List aB} {was : Int} (I : oR x put got was) {l : List aB} (hl : okL l) (hn : put.length + l.length ≤ 1000000) :
    ((CJ [x] 0 l).1 ≠ 0 ∧ (CJ [x] 0 l).2 = [x]) ∨ ((CJ [x] 0 l).1 = 0 ∧ ∃ y, (CJ [x] 0 l).2 = [y] ∧ oR y (put ++ l) got was) := by
  have ho : ¬ sG [x] 0 := by unfold sG; simp
  have hg : gI [x] 0 = x := rfl
  unfold CJ
  rw [if_neg ho, hg]
  cases hm : oD l with
  | false => left; simp
  | true =>
    simp only [Bool.not_true, Bool.false_eq_true, if_false]
    cases hc : l.any fun e => decide (e.At < x.clock) with
    | true => left; simp
    | false =>
      simp only [Bool.false_eq_true, if_false]
      by_cases he : (AJ x.held l).2 = 0
      · right
        rw [if_neg (by simpa using he)]
        refine ⟨rfl, ⟨x.clock, (AJ x.held l).1⟩, rfl, ?_⟩
        have ea : AJ x.held l = fS (x.held ++ l) := by unfold AJ; rw [I.ok.2.1, hm]; rfl
        rw [ea] at he ⊢
        have hat : ∀ e ∈ l, x.clock ≤ e.At := fun e h => by
          apply Classical.byContradiction; intro hn'
          have : (l.any fun e => decide (e.At < x.clock)) = true := List.any_eq_true.2 ⟨e, h, by simp; omega⟩
          rw [hc] at this; cases this
        have hlen := vB I.ok.2.1
        have aA5 := vB hm
        refine ⟨⟨I.ok.1, zV he, JP (yE I.ok.2.2 hl (by omega))⟩, I.w0, I.w1, ?_, fun r t t0 t1 => ?_, I.fair, yE I.kp hl (by omega), I.kg⟩
        · refine VE he I.w0 (by have := I.w1; have := I.ok.1.2; omega) fun e h => ?_
          rcases List.mem_append.1 h with h | h
          · exact I.hw e h
          · have := hat e h; have := I.w1; omega
        · rw [DK he r t0 t1, qS, qS, wB, wB, I.sum r t t0 t1]; omega
      · left
        rw [if_pos he]
        exact ⟨he, rfl⟩

theorem TX {x : aY} {put got : List aB} {was : Int} (I : oR x put got was) (t : Int) : ∃ y, (vX [x] 0 t).2 = [y] ∧ oR y put got was := by
  have ho : ¬ sG [x] 0 := by unfold sG; simp
  have hg : gI [x] 0 = x := rfl
  unfold vX
  rw [if_neg ho, hg]
  split
  · exact ⟨x, rfl, I⟩
  · split
    · exact ⟨x, rfl, I⟩
    · refine ⟨⟨t, x.held⟩, rfl, ⟨⟨by simp only; omega, I.ok.2⟩, I.w0, ?_, I.hw, I.sum, I.fair, I.kp, I.kg⟩⟩
      have := I.w1
      simp only; omega

theorem SH {x : aY} (h : okI x) : vX [x] 0 1125899906842624 = (0, [⟨1125899906842624, x.held⟩]) := by
  have ho : ¬ sG [x] 0 := by unfold sG; simp
  have hg : gI [x] 0 = x := rfl
  unfold vX
  have := h.1
  rw [if_neg ho, hg, if_neg (by omega), if_neg (by omega)]
  rfl

theorem XA {x : aY} {put got : List aB} {was : Int} (I : oR x put got was) : oR ⟨1125899906842624, x.held⟩ put got was :=
  ⟨⟨by simp only; omega, I.ok.2⟩, I.w0, by have := I.w1; have := I.ok.1.2; simp only; omega, I.hw, I.sum, I.fair, I.kp, I.kg⟩

theorem JN {x : aY} (h : okI x) : tJ [x] = x.clock := by
  unfold tJ WY
  have := h.1
  simp only [List.foldl_cons, List.foldl_nil]; omega

theorem GA {x : aY} {put got : List aB} {was : Int} (I : oR x put got was) (hn : got.length ≤ 900000) : oR (lU x.clock x) put (got ++ nC x.clock x) x.clock := by
  have hlen := vB I.ok.2.1
  have hsl : (nC x.clock x).length ≤ 4096 := Nat.le_trans (List.length_filter_le ..) hlen
  refine ⟨⟨I.ok.1, FO I.ok.2.1 _, CH I.ok.2.2 _⟩, I.ok.1.1, Int.le_refl _, fun e he => ?_, fun r t t0 t1 => ?_, fun e he => ?_, I.kp, yE I.kg (CH I.ok.2.2 _) (by omega)⟩
  · have := (List.mem_filter.1 he).2
    simp at this; exact this
  · rw [I.sum r t t0 t1, qS, wB, FY (fun e => decide (e.At < x.clock)) r t x.held]
    unfold nC lU
    simp only; omega
  · rcases List.mem_append.1 he with h | h
    · exact I.fair e h
    · exact WR I.ok.2.1 e (List.mem_filter.1 h).1

theorem YJ {x : aY} {put got : List aB} {was : Int} (I : oR x put got was) (hx : x.held = []) (h : (fS put).2 = 0) : fS got = fS put := by
  have hm := zV h
  have e2 : fS put = ((fS put).1, 0) := by rw [← h]
  rw [e2]
  refine XI ?_ ?_ hm fun r => ?_
  · rw [List.any_eq_false]; intro e he; rw [(I.fair e he).1]; simp
  · rw [List.any_eq_false]; intro e he; rw [(I.fair e he).2]; simp
  · refine VV ?_ ?_ (yB hm r) fun t t0 t1 => ?_
    · rw [List.any_eq_false]
      intro j hj
      obtain ⟨e, he, _, rfl⟩ := BT hj
      have := (I.fair e he).1
      unfold unE at this
      simp only [Bool.or_eq_false_iff, decide_eq_false_iff_not] at this
      unfold sY BQ jE
      simp; omega
    · rw [List.any_eq_false]
      intro j hj
      obtain ⟨e, he, _, rfl⟩ := BT hj
      have := (I.fair e he).2
      unfold AI at this
      simp only [Bool.or_eq_false_iff, decide_eq_false_iff_not] at this
      unfold xR jE
      simp; omega
    · rw [DK h r t0 t1, I.sum r t t0 t1, hx]
      simp [cA, val]

end Go.Abs
namespace Go.Abs
open Go
theorem FA {x : aY} (h : okI x) : okX [x] := ⟨by simp, fun y hy => by rw [List.mem_singleton.1 hy]; exact h⟩

theorem OI {l : List cO} {x : aY} {put got : List aB} {was : Int} (I : oR x put got was) (hg : got.length ≤ 900000) (i : Int) :
    ((dI ⟨[x]⟩).bind fun x65 => cond (!decide (((List.length x65.1 : Nat) : Int) = (1 : Int))) (some (.inr (.inr false))) (nZ l x65.2 put got was i x65.1 (0 : Int))) =
      some (.inl (⟨[lU x.clock x]⟩, put, got ++ nC x.clock x, x.clock, IntKind.i64.wrap (i + (1 : Int)))) := by
  have hx := FA I.ok
  have hlen := vB I.ok.2.1
  have hsl : (nC x.clock x).length ≤ 4096 := Nat.le_trans (List.length_filter_le ..) hlen
  have ho : okX [lU x.clock x] := FA ⟨I.ok.1, FO I.ok.2.1 _, CH I.ok.2.2 _⟩
  have hc : eA ⟨[lU x.clock x]⟩ = some x.clock := by
    rw [DU ho.1, JN (ho.2 _ (by simp))]; rfl
  rw [AQ hx, JN I.ok, Option.bind_some]
  have h1 : decide (((List.length ([x].map (nC x.clock)) : Nat) : Int) = (1 : Int)) = true := rfl
  simp only [h1, Bool.not_true, cond_false]
  unfold nZ
  have hs : [x].map (nC x.clock) = [nC x.clock x] := rfl
  have hp : [x].map (lU x.clock) = [lU x.clock x] := rfl
  rw [hs, hp]
  have hd : List.getD [nC x.clock x] (Int.toNat (0 : Int)) default = nC x.clock x := rfl
  rw [aAf (l := nC x.clock x) (body := fun s : aV × List aB × List aB × Int => mE l was i [nC x.clock x] s.1 s.2.1 s.2.2.1 s.2.2.2) (fun j => (⟨[lU x.clock x]⟩, put, got, j)) (fun _ => false) (.inr false) (.inl (⟨[lU x.clock x]⟩, put, got)) ?_ ?_]
  · simp only [List.any_eq_true, Bool.false_eq_true, and_false, exists_false, if_false, Option.bind_some, Sum.elim_inl]
    unfold nW mA
    rw [bC (by simp), hd, bC (by omega), hc, Option.bind_some]
  · intro j e he
    obtain ⟨d1, d2, d3, d4⟩ := idx he (by omega)
    have hm := List.mem_of_getElem? he
    obtain ⟨m1, m2⟩ := List.mem_filter.1 hm
    have hw := I.hw e m1
    have hcl : e.At < x.clock := by simpa using m2
    have b1 : decide (e.At < was) = false := by simp; omega
    have b2 : decide (x.clock ≤ e.At) = false := by simp; omega
    unfold mE
    rw [bC (by simp), hd, d1, cond_true, bC (by simp), bC d2, bC (fun _ => by simp), bC (fun _ => d2), d3, b1]
    simp only [Bool.not_false, hU, cond_true, hc, Option.bind_some, b2, Bool.or_self, cond_false, d4]
    rfl
  · unfold mE
    rw [bC (by simp), hd, jF, cond_false]

theorem RC {l : List cO} (hl : l.length ≤ 1000000) {k : Nat} {o : cO} (ho : l[k]? = some o) {x : aY} {put got : List aB} {was : Int} (I : oR x put got was) (hg : got.length ≤ 890000) :
    ∃ y got' was', mC l ⟨[x]⟩ put got was ((k : Nat) : Int) = some (.inl (⟨[y]⟩, put, got', was', ((k + 1 : Nat) : Int))) ∧ oR y put got' was' ∧ (l.length = k + 1 → y.held = []) ∧ got'.length ≤ got.length + 4096 := by
  obtain ⟨d1, d2, d3, d4⟩ := idx ho (by omega)
  have hlt : k < l.length := (List.getElem?_eq_some_iff.1 ho).1
  have w1 : IntKind.i64.wrap (((List.length l : Nat) : Int) - 1) = ((List.length l : Nat) : Int) - 1 := jL (by omega) (by omega)
  have hlen := vB I.ok.2.1
  unfold mC
  rw [bC d2, bC (fun _ => d2), d3, w1]
  by_cases hlast : l.length = k + 1
  · have b1 : decide (((k : Nat) : Int) = ((List.length l : Nat) : Int) - 1) = true := by simp; omega
    rw [b1]
    simp only [Bool.or_true, cond_true, AD, SH I.ok, Option.bind_some, decide_true, Bool.not_true, Bool.and_false, cond_false]
    have I' := XA I
    rw [OI I' (by omega), d4]
    have hcl : (⟨1125899906842624, x.held⟩ : aY).clock = 1125899906842624 := rfl
    refine ⟨_, _, _, rfl, GA I' (by omega), fun _ => ?_, ?_⟩
    · unfold lU
      simp only
      rw [List.filter_eq_nil_iff]
      intro e he
      have := (BN I.ok.2.1 he).2.2.1
      simp; omega
    · have hsl : (nC (⟨1125899906842624, x.held⟩ : aY).clock ⟨1125899906842624, x.held⟩).length ≤ 4096 := Nat.le_trans (List.length_filter_le ..) hlen
      rw [List.length_append]; omega
  · have b1 : decide (((k : Nat) : Int) = ((List.length l : Nat) : Int) - 1) = false := by simp; omega
    rw [b1]
    simp only [Bool.or_false, cond_false, Option.bind_some, Bool.false_and]
    cases hk : (!decide (o.Kind = (0 : Int))) && (!decide (o.Kind = (1 : Int))) with
    | true =>
      rw [cond_true, OI I (by omega), d4]
      refine ⟨_, _, _, rfl, GA I (by omega), fun h => absurd h hlast, ?_⟩
      have hsl : (nC x.clock x).length ≤ 4096 := Nat.le_trans (List.length_filter_le ..) hlen
      rw [List.length_append]; omega
    | false =>
      rw [cond_false]
      unfold mA
      rw [d4]
      exact ⟨x, got, was, rfl, I, fun h => absurd h hlast, by omega⟩

theorem IZ {l : List cO} (hl : l.length ≤ 1000000) {k : Nat} {o : cO} (ho : l[k]? = some o) {x : aY} {put got : List aB} {was : Int} (I : oR x put got was) (hg : got.length ≤ 890000) :
    ∃ y got' was', lZ l ⟨[x]⟩ put got was ((k : Nat) : Int) = some (.inl (⟨[y]⟩, put, got', was', ((k + 1 : Nat) : Int))) ∧ oR y put got' was' ∧ (l.length = k + 1 → y.held = []) ∧ got'.length ≤ got.length + 4096 := by
  obtain ⟨d1, d2, d3, d4⟩ := idx ho (by omega)
  unfold lZ
  rw [bC d2, d3]
  by_cases h1 : o.Kind = 1
  · rw [decide_eq_true h1, cond_true, bC d2, AD, Option.bind_some]
    obtain ⟨y, e, I'⟩ := TX I o.At
    rw [e]
    exact RC hl ho I' hg
  · rw [decide_eq_false h1, cond_false]
    exact RC hl ho I hg

theorem TB {l : List cO} (hl : l.length ≤ 1000000) {k : Nat} {o : cO} (ho : l[k]? = some o) (hE : okL o.Edges) {x : aY} {put got : List aB} {was : Int} (I : oR x put got was) (hg : got.length ≤ 890000) (hp : put.length + o.Edges.length ≤ 1000000) :
    ∃ y put' got' was', jN l ⟨[x]⟩ put got was ((k : Nat) : Int) = some (.inl (⟨[y]⟩, put', got', was', ((k + 1 : Nat) : Int))) ∧ oR y put' got' was' ∧ (l.length = k + 1 → y.held = []) ∧ got'.length ≤ got.length + 4096 ∧ put'.length ≤ put.length + o.Edges.length := by
  obtain ⟨d1, d2, d3, d4⟩ := idx ho (by omega)
  unfold jN
  rw [d1, cond_true, bC d2, bC (fun _ => d2), d3]
  by_cases h0 : o.Kind = 0
  · rw [decide_eq_true h0, cond_true, QZ (FA I.ok) 0 hE, Option.bind_some]
    rcases YB I hE hp with ⟨e1, e2⟩ | ⟨e1, y, e2, I'⟩
    · rw [decide_eq_false e1, e2, Bool.and_false, cond_false]
      obtain ⟨z, g, w, a, b, c, d⟩ := IZ hl ho I hg
      exact ⟨z, put, g, w, a, b, c, d, by omega⟩
    · rw [decide_eq_true e1, e2, Bool.and_self, cond_true, bC d2, bC (by omega)]
      obtain ⟨z, g, w, a, b, c, d⟩ := IZ hl ho I' hg
      exact ⟨z, put ++ o.Edges, g, w, a, b, c, d, by simp⟩
  · rw [decide_eq_false h0, cond_false, Option.bind_some, Bool.false_and, cond_false]
    obtain ⟨z, g, w, a, b, c, d⟩ := IZ hl ho I hg
    exact ⟨z, put, g, w, a, b, c, d, by omega⟩

theorem KL {l : List cO} (hl : l.length ≤ 60) (hE : ∀ o ∈ l, okL o.Edges) : ∀ (r : List cO) (k : Nat) (x : aY) (put got : List aB) (was : Int), l.drop k = r → k ≤ l.length → oR x put got was → (r = [] → x.held = []) →
    put.length + (r.map fun o => o.Edges.length).sum ≤ 60 → got.length + 4096 * r.length ≤ 890000 →
    ∃ y put' got' was', oR y put' got' was' ∧ y.held = [] ∧ put'.length ≤ 60 ∧ got'.length ≤ 890000 ∧
      lp (fun s : aV × List aB × List aB × Int × Int => jN l s.1 s.2.1 s.2.2.1 s.2.2.2.1 s.2.2.2.2) (⟨[x]⟩, put, got, was, ((k : Nat) : Int)) = some (.inl (⟨[y]⟩, put', got'))
  | [], k, x, put, got, was, hd, hk, I, hx, hp, hg => by
    have : k = l.length := by
      have := congrArg List.length hd
      simp at this; omega
    subst this
    simp only [List.map_nil, List.sum_nil, List.length_nil] at hp hg
    exact ⟨x, put, got, was, I, hx rfl, by omega, by omega, cK (by simp only [jN, jF, cond_false])⟩
  | o :: r, k, x, put, got, was, hd, hk, I, hx, hp, hg => by
    have ho : l[k]? = some o := by
      have := congrArg (fun L : List cO => L[0]?) hd
      simpa using this
    have hd' : l.drop (k + 1) = r := by
      have := congrArg List.tail hd
      simpa using this
    have hlt : k < l.length := (List.getElem?_eq_some_iff.1 ho).1
    simp only [List.map_cons, List.sum_cons, List.length_cons] at hp hg
    obtain ⟨y, p, g, w, h1, I', h2, h3, h4⟩ := TB (by omega) ho (hE o (List.mem_of_getElem? ho)) I (by omega) (by omega)
    have hr : r = [] → l.length = k + 1 := fun e => by
      subst e
      have := congrArg List.length hd'
      simp at this; omega
    obtain ⟨z, p', g', w', a, b, c, d, e⟩ := KL hl hE r (k + 1) y p g w hd' (by omega) I' (fun e => h2 (hr e)) (by omega) (by omega)
    exact ⟨z, p', g', w', a, b, c, d, by rw [eP h1]; exact e⟩

theorem JB (l0 : (List cO)) (m0 : ∀ a ∈ l0, xF a) (y0 : List.length l0 * 48 ≤ 140737488351232) : qI l0 = some true := by
  unfold qI
  obtain ⟨b, h1, h2⟩ := RY (l := l0) (by omega)
  rw [h1, Option.bind_some]
  cases b with
  | false => simp [KG]
  | true =>
    obtain ⟨h3, h4⟩ := h2 rfl
    rw [Bool.not_true, cond_false, FU (by decide) (by decide), Option.bind_some]
    simp only [decide_true, Bool.not_true, cond_false]
    have I0 : oR ⟨0, []⟩ [] [] 0 := ⟨⟨by decide, yW, wL⟩, by decide, by decide, by simp, fun r t _ _ => by simp [cA, val], by simp, wL, wL⟩
    obtain ⟨y, put, got, was, I, hy, hp, hg, hlp⟩ := KL h3 (fun o ho => aAE (m0 o ho).2.2.1.1 (m0 o ho).2.2.1.2) l0 0 ⟨0, []⟩ [] [] 0 rfl (Nat.zero_le _) I0 (fun _ => rfl) (by simp only [List.length_nil]; omega) (by simp only [List.length_nil]; omega)
    unfold nX
    have hn : NV (Int.toNat (1 : Int)) = [⟨0, []⟩] := rfl
    rw [hn]
    simp only [Int.natCast_zero] at hlp
    rw [hlp, Option.bind_some, Sum.elim_inl]
    unfold oE
    have hh : II [y] 0 = 0 := by unfold II; simp [hy]
    rw [GK I.kp (by omega), Option.bind_some, GK I.kg (by omega), Option.bind_some, KG, Option.bind_some, cond_true, OA (FA I.ok), hh, Option.bind_some]
    by_cases hk : (fS put).2 = 0
    · rw [YJ I hy hk]
      simp only [hk, decide_true, Bool.not_true, Bool.not_false, Bool.and_self, hU, cond_true, PF (JP I.kp), Option.bind_some, Bool.or_true, Bool.and_true]
    · simp [hk, hU]

end Go.Abs
