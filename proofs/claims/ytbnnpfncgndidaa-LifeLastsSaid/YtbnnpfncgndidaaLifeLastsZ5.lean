/- What the law LifeLasts stands on: the framework, the given functions as plain functions, their walks, and the plain laws; part 5. -/
import Derived.Test.YtbnnpfncgndidaaLifeLastsZ4
set_option linter.unusedSimpArgs false
set_option linter.unusedVariables false
namespace Go.Abs
open Go
variable {α : Type} [Inhabited α]
section sym
variable {ok : α → Prop} {le : α → α → Prop} {cmp : α → α → Option Int}
theorem aAD (C : Cmp ok le cmp) {P A B S : List α} {a m b : Int} (hA : Oks ok A) (hB : Oks ok B) (hsA : Srt le A) (hsB : Srt le B) (hA2 : 2 ≤ A.length) (hB2 : 2 ≤ B.length)
    (ha : a = (P.length : Nat)) (hm : m = ((P.length + A.length : Nat) : Int)) (hb : b = ((P.length + A.length + B.length : Nat) : Int)) (hl : (P ++ A ++ B ++ S).length ≤ 1099511627776) :
    UF cmp le P A B S (P ++ A ++ B ++ S) a m b := by
  right
  have hl' := hl
  simp only [List.length_append] at hl'
  -- the middle
  obtain ⟨mid, hmid⟩ : ∃ mid : Nat, mid = (P.length + (P.length + A.length + B.length)) / 2 := ⟨_, rfl⟩
  have hga : ∀ k, P.length ≤ k → k < P.length + A.length → (P ++ A ++ B ++ S).getD k default = A.getD (k - P.length) default := fun k h1 h2 => EH (P := P) (B := A) (S := B ++ S) (by simp) (by omega) (by omega)
  have hgb : ∀ k, P.length + A.length ≤ k → k < P.length + A.length + B.length → (P ++ A ++ B ++ S).getD k default = B.getD (k - (P.length + A.length)) default := fun k h1 h2 => EH (P := P ++ A) (B := B) (S := S) (by simp) (by simp; omega) (by omega)
  -- the search
  obtain ⟨lo, hi, hlo, hhi, hbnd, hlohi, hrange, hinit⟩ : ∃ lo hi : Nat, (lo = P.length ∨ lo + (P.length + A.length + B.length) = mid + (P.length + A.length)) ∧ (hi = P.length + A.length ∨ hi = mid) ∧ (P.length ≤ lo ∧ mid + (P.length + A.length) ≤ lo + (P.length + A.length + B.length) ∧ hi ≤ P.length + A.length ∧ hi ≤ mid) ∧ lo ≤ hi ∧
      (∀ c, lo ≤ c → c < hi → P.length ≤ c ∧ c < P.length + A.length ∧ P.length + A.length ≤ mid + (P.length + A.length) - 1 - c ∧ mid + (P.length + A.length) - 1 - c < P.length + A.length + B.length) ∧
      (∀ rec, wC cmp rec (P ++ A ++ B ++ S) a m b = wB cmp rec (P ++ A ++ B ++ S) a m b (mid : Int) ((mid + (P.length + A.length) : Nat) : Int) (lo : Int) (hi : Int)) := by
    have hw0 : IntKind.i64.wrap (Int.fdiv (IntKind.u64.wrap (IntKind.i64.wrap (a + b))) (2 ^ (min (Int.toNat (1 : Int)) 64))) = ((mid : Nat) : Int) := by
      rw [show a + b = ((P.length + (P.length + A.length + B.length) : Nat) : Int) by omega, half (by omega), hmid]
    have hw1 : IntKind.i64.wrap ((mid : Int) + m) = ((mid + (P.length + A.length) : Nat) : Int) := by rw [wr (by omega) (by omega)]; omega
    by_cases hc : mid < P.length + A.length
    · refine ⟨mid + (P.length + A.length) - (P.length + A.length + B.length), mid, Or.inr (by omega), Or.inr (by omega), by omega, by omega, fun c h1 h2 => ⟨by omega, by omega, by omega, by omega⟩, fun rec => ?_⟩
      have hlt : decide ((mid : Int) < m) = true := by simp; omega
      simp only [wC, hw0, hlt, cond_true, hw1]
      rw [aV (by omega), show IntKind.i64.wrap (((mid + (P.length + A.length) : Nat) : Int) - b) = ((mid + (P.length + A.length) - (P.length + A.length + B.length) : Nat) : Int) by rw [wr (by omega) (by omega)]; omega]
    · refine ⟨P.length, P.length + A.length, Or.inl rfl, Or.inl rfl, by omega, by omega, fun c h1 h2 => ⟨by omega, by omega, by omega, by omega⟩, fun rec => ?_⟩
      have hlt : decide ((mid : Int) < m) = false := by simp; omega
      simp only [wC, hw0, hlt, cond_false, hw1]
      rw [aV (by omega)]
      rw [ha, hm]
  have hbin : ∀ rec, ∃ s : Nat, lo ≤ s ∧ s ≤ hi ∧ (s = lo ∨ le (A.getD (s - 1 - P.length) default) (B.getD (mid + (P.length + A.length) - 1 - (s - 1) - (P.length + A.length)) default)) ∧ (s = hi ∨ ¬ le (A.getD (s - P.length) default) (B.getD (mid + (P.length + A.length) - 1 - s - (P.length + A.length)) default)) ∧
      lp (fun s : List α × Int × Int => nE cmp rec a m b (mid : Int) ((mid + (P.length + A.length) : Nat) : Int) ((mid + (P.length + A.length) - 1 : Nat) : Int) s.1 s.2.1 s.2.2) (P ++ A ++ B ++ S, (lo : Int), (hi : Int)) = some (P ++ A ++ B ++ S, ((s : Nat) : Int)) := by
    intro rec
    refine PT (lo := lo) (hi := hi) (f := fun k => le (A.getD (k - P.length) default) (B.getD (mid + (P.length + A.length) - 1 - k - (P.length + A.length)) default)) ?_ ?_ _ _ _ (Nat.le_refl _) (Nat.le_refl _) hlohi (Nat.le_refl _) (Or.inl rfl) (Or.inl rfl)
    · intro i j h1 h2 h3
      obtain ⟨r1, r2, r3, r4⟩ := hrange ((i + j) / 2) (by omega) (by omega)
      have e1 := hga ((i + j) / 2) r1 r2
      have e2 := hgb (mid + (P.length + A.length) - 1 - (i + j) / 2) r3 r4
      obtain ⟨v, hc, hv⟩ := C.ans (B.getD (mid + (P.length + A.length) - 1 - (i + j) / 2 - (P.length + A.length)) default) (A.getD ((i + j) / 2 - P.length) default) (hB _ (cW (by omega))) (hA _ (cW (by omega)))
      refine ⟨!decide (v < 0), by simp only [Bool.not_eq_true', decide_eq_false_iff_not, hv, Classical.not_not], ?_⟩
      show nE cmp rec _ _ _ _ _ _ _ _ _ = _
      have hlt : decide ((i : Int) < (j : Int)) = true := by simpa using h2
      have hadd : ((i : Int) + (j : Int)) = ((i + j : Nat) : Int) := by omega
      have w1 : IntKind.i64.wrap ((((i + j) / 2 : Nat) : Int) + 1) = (((i + j) / 2 + 1 : Nat) : Int) := by rw [wr (by omega) (by omega)]; omega
      have w2 : IntKind.i64.wrap (((mid + (P.length + A.length) - 1 : Nat) : Int) - (((i + j) / 2 : Nat) : Int)) = ((mid + (P.length + A.length) - 1 - (i + j) / 2 : Nat) : Int) := by rw [wr (by omega) (by omega)]; omega
      simp only [nE, hlt, cond_true, hadd, half (s := i + j) (by omega), w1, w2, Int.toNat_natCast, e1, e2, hc, Option.bind_some]
      rw [aV (by omega), aV ⟨by omega, by simp only [List.length_append]; omega⟩, aV ⟨by omega, by simp only [List.length_append]; omega⟩]
      by_cases hneg : v < 0 <;> simp [hneg]
    · intro i
      show nE cmp rec _ _ _ _ _ _ _ _ _ = _
      have hlt : decide ((i : Int) < (i : Int)) = false := by simp
      simp only [nE, hlt, cond_false]
  obtain ⟨s, s1, s2, s3, s4, s5⟩ := hbin (fun _ _ _ _ => none)
  have hsA0 : P.length ≤ s ∧ s ≤ P.length + A.length := by
    omega
  have hsB0 : P.length + A.length ≤ mid + (P.length + A.length) - s ∧ mid + (P.length + A.length) - s ≤ P.length + A.length + B.length := by
    omega
  obtain ⟨t, rfl⟩ : ∃ t, s = P.length + t := ⟨s - P.length, by omega⟩
  obtain ⟨u, hu⟩ : ∃ u, mid + (P.length + A.length) - (P.length + t) = P.length + A.length + u := ⟨mid + (P.length + A.length) - (P.length + t) - (P.length + A.length), by omega⟩
  have htA : t ≤ A.length := by omega
  have huB : u ≤ B.length := by omega
  have hmtu : mid = P.length + t + u := by omega
  have hAs : A.take t ++ A.drop t = A := List.take_append_drop t A
  have hBs : B.take u ++ B.drop u = B := List.take_append_drop u B
  have hlA1 : (A.take t).length = t := by rw [List.length_take]; omega
  have hlA2 : (A.drop t).length = A.length - t := by rw [List.length_drop]
  have hlB1 : (B.take u).length = u := by rw [List.length_take]; omega
  have hlB2 : (B.drop u).length = B.length - u := by rw [List.length_drop]
  refine ⟨A.take t, A.drop t, B.take u, B.drop u, hAs.symm, hBs.symm, by rw [hlA1, hlB1]; omega, by rw [hlA2, hlB2]; omega, ?_, fun rec => ?_⟩
  · -- who stands ahead of whom
    intro x hx y hy
    rcases List.mem_append.1 hx with hx | hx
    · obtain ⟨i, i1, i2, rfl⟩ := DZ hx
      rcases List.mem_append.1 hy with hy | hy
      · obtain ⟨j, j1, j2, rfl⟩ := tP hy
        exact rM C hA hsA (by omega) j2
      · obtain ⟨j, j1, j2, rfl⟩ := tP hy
        have h3 : le (A.getD (t - 1) default) (B.getD u default) := by
          rcases s3 with h | h
          · rcases hlo with h' | h' <;> omega
          · rwa [show P.length + t - 1 - P.length = t - 1 by omega, show mid + (P.length + A.length) - 1 - (P.length + t - 1) - (P.length + A.length) = u by omega] at h
        exact C.trans _ _ _ (hA _ (cW i2)) (hA _ (cW (by omega))) (hB _ (cW j2)) (rM C hA hsA (show i ≤ t - 1 by omega) (by omega))
          (C.trans _ _ _ (hA _ (cW (by omega))) (hB _ (cW (by omega))) (hB _ (cW j2)) h3 (rM C hB hsB j1 j2))
    · obtain ⟨i, i1, i2, rfl⟩ := DZ hx
      rcases List.mem_append.1 hy with hy | hy
      · obtain ⟨j, j1, j2, rfl⟩ := tP hy
        have h3 : le (B.getD (u - 1) default) (A.getD t default) := by
          have h0 : ¬ le (A.getD t default) (B.getD (u - 1) default) := by
            rcases s4 with h | h
            · rcases hhi with h' | h' <;> omega
            · rwa [show P.length + t - P.length = t by omega, show mid + (P.length + A.length) - 1 - (P.length + t) - (P.length + A.length) = u - 1 by omega] at h
          rcases C.total _ _ (hA _ (cW (show t < A.length by omega))) (hB _ (cW (show u - 1 < B.length by omega))) with h | h
          · exact absurd h h0
          · exact h
        exact C.trans _ _ _ (hB _ (cW i2)) (hB _ (cW (by omega))) (hA _ (cW j2)) (rM C hB hsB (show i ≤ u - 1 by omega) (by omega))
          (C.trans _ _ _ (hB _ (cW (by omega))) (hA _ (cW (by omega))) (hA _ (cW j2)) h3 (rM C hA hsA j1 j2))
      · obtain ⟨j, j1, j2, rfl⟩ := tP hy
        exact rM C hB hsB (by omega) j2
  · have h1 : decide (IntKind.i64.wrap (m - a) = 1) = false := by rw [wr (by omega) (by omega)]; simp; omega
    have h2 : decide (IntKind.i64.wrap (b - m) = 1) = false := by rw [wr (by omega) (by omega)]; simp; omega
    have s5' : lp (fun s : List α × Int × Int => nE cmp rec a m b (mid : Int) ((mid + (P.length + A.length) : Nat) : Int) ((mid + (P.length + A.length) - 1 : Nat) : Int) s.1 s.2.1 s.2.2) (P ++ A ++ B ++ S, (lo : Int), (hi : Int)) = some (P ++ A ++ B ++ S, ((P.length + t : Nat) : Int)) := s5
    have hp : IntKind.i64.wrap (((mid + (P.length + A.length) : Nat) : Int) - 1) = ((mid + (P.length + A.length) - 1 : Nat) : Int) := by rw [wr (by omega) (by omega)]; omega
    have he : IntKind.i64.wrap (((mid + (P.length + A.length) : Nat) : Int) - ((P.length + t : Nat) : Int)) = ((P.length + A.length + u : Nat) : Int) := by rw [wr (by omega) (by omega)]; omega
    simp only [dQ, h1, cond_false, zL, h2, hinit rec, wB, EX, hp, s5', Option.bind_some, EU, he]
    -- the turn
    have hd : P ++ A ++ B ++ S = (P ++ A.take t) ++ A.drop t ++ B.take u ++ (B.drop u ++ S) := by
      have : (P ++ A.take t) ++ A.drop t ++ B.take u ++ (B.drop u ++ S) = P ++ (A.take t ++ A.drop t) ++ (B.take u ++ B.drop u) ++ S := by simp only [List.append_assoc]
      rw [this, hAs, hBs]
    have hrot : cond (decide (((P.length + t : Nat) : Int) < m) && decide (m < ((P.length + A.length + u : Nat) : Int)))
        ((BX (P ++ A ++ B ++ S) ((P.length + t : Nat) : Int) m ((P.length + A.length + u : Nat) : Int) cmp).bind fun x10 => pH cmp rec x10 a b (mid : Int) ((P.length + t : Nat) : Int) ((P.length + A.length + u : Nat) : Int))
        (pH cmp rec (P ++ A ++ B ++ S) a b (mid : Int) ((P.length + t : Nat) : Int) ((P.length + A.length + u : Nat) : Int))
        = pH cmp rec (P ++ A.take t ++ B.take u ++ A.drop t ++ B.drop u ++ S) a b (mid : Int) ((P.length + t : Nat) : Int) ((P.length + A.length + u : Nat) : Int) := by
      by_cases hc : t < A.length ∧ 0 < u
      · have : (decide (((P.length + t : Nat) : Int) < m) && decide (m < ((P.length + A.length + u : Nat) : Int))) = true := by simp; omega
        rw [this, cond_true, aA5 (Q := P ++ A.take t) (X := A.drop t) (Y := B.take u) (R := B.drop u ++ S) hd (fun h => by rw [h] at hlA2; simp at hlA2; omega) (fun h => by rw [h] at hlB1; simp at hlB1; omega)
          (by simp only [List.length_append, hlA1]) (by simp only [List.length_append, hlA1, hlA2]; rw [hm]; congr 1; omega) (by simp only [List.length_append, hlA1, hlA2, hlB1]; congr 1; omega) hl]
        simp
      · have : (decide (((P.length + t : Nat) : Int) < m) && decide (m < ((P.length + A.length + u : Nat) : Int))) = false := by
          rw [Bool.eq_false_iff]; intro h; simp at h; apply hc; omega
        rw [this, cond_false, hd]
        congr 1
        by_cases h0 : t < A.length
        · have : u = 0 := by omega
          subst this; simp
        · have hz : A.drop t = [] := List.drop_eq_nil_of_le (by omega)
          simp only [hz, List.append_nil, List.append_assoc, List.nil_append]
    rw [hrot]
    have hne1 : decide (A.take t ≠ [] ∧ B.take u ≠ []) = (decide (a < ((P.length + t : Nat) : Int)) && decide (((P.length + t : Nat) : Int) < (mid : Int))) := by
      have q1 : A.take t ≠ [] ↔ 0 < t := by rw [← List.length_pos_iff, hlA1]
      have q2 : B.take u ≠ [] ↔ 0 < u := by rw [← List.length_pos_iff, hlB1]
      rw [Bool.eq_iff_iff]; simp [q1, q2]; omega
    have hne2 : decide (A.drop t ≠ [] ∧ B.drop u ≠ []) = (decide ((mid : Int) < ((P.length + A.length + u : Nat) : Int)) && decide (((P.length + A.length + u : Nat) : Int) < b)) := by
      have q1 : A.drop t ≠ [] ↔ t < A.length := by rw [← List.length_pos_iff, hlA2]; omega
      have q2 : B.drop u ≠ [] ↔ u < B.length := by rw [← List.length_pos_iff, hlB2]; omega
      rw [Bool.eq_iff_iff]; simp [q1, q2]; omega
    rw [hne1, hne2, hlA1, hlB1, hlA2]
    have f1 : a + ((t : Nat) : Int) = ((P.length + t : Nat) : Int) := by omega
    have f2 : a + ((t + u : Nat) : Int) = (mid : Int) := by omega
    have f3 : a + ((t + u + (A.length - t) : Nat) : Int) = ((P.length + A.length + u : Nat) : Int) := by omega
    rw [f1, f2, f3]
    simp only [pH, zQ]
    cases (decide (a < ((P.length + t : Nat) : Int)) && decide (((P.length + t : Nat) : Int) < (mid : Int))) <;> simp only [cond_true, cond_false, Option.bind_some, Option.bind_fun_some]

end sym
end Go.Abs
namespace Go.Abs
open Go
variable {α : Type} [Inhabited α] {ok : α → Prop} {le : α → α → Prop} {cmp : α → α → Option Int}
theorem aAv (C : Cmp ok le cmp) {P A B S : List α} {a m b : Int} (hA : A ≠ []) (hB : B ≠ []) (oA : Oks ok A) (oB : Oks ok B) (sA : Srt le A) (sB : Srt le B)
    (ha : a = (P.length : Nat)) (hm : m = ((P.length + A.length : Nat) : Int)) (hb : b = ((P.length + A.length + B.length : Nat) : Int)) (hl : (P ++ A ++ B ++ S).length ≤ 1099511627776) : UF cmp le P A B S (P ++ A ++ B ++ S) a m b := by
  by_cases h1 : A.length = 1
  · obtain ⟨x, rfl⟩ := List.length_eq_one_iff.1 h1
    left
    obtain ⟨r, h, h'⟩ := WA C (P := P) (S := S) (x := x) (oA x (by simp)) oB sB ha (by simpa using hm) (by simpa using hb) (by simpa using hl)
    exact ⟨r, h, fun rec => by have := h' rec; simpa using this⟩
  · by_cases h2 : B.length = 1
    · obtain ⟨x, rfl⟩ := List.length_eq_one_iff.1 h2
      left
      obtain ⟨r, h, h'⟩ := YX C (P := P) (S := S) (x := x) (oB x (by simp)) oA sA h1 ha hm (by simpa using hb) (by simpa using hl)
      exact ⟨r, h, fun rec => by have := h' rec; simpa using this⟩
    · have p1 := List.length_pos_iff.2 hA
      have p2 := List.length_pos_iff.2 hB
      exact aAD C oA oB sA sB (by omega) (by omega) ha hm hb hl

theorem II (C : Cmp ok le cmp) : ∀ (k : Nat) (P A B S : List α) (a m b : Int), A ≠ [] → B ≠ [] → Oks ok A → Oks ok B → Srt le A → Srt le B →
    a = (P.length : Nat) → m = ((P.length + A.length : Nat) : Int) → b = ((P.length + A.length + B.length : Nat) : Int) → (P ++ A ++ B ++ S).length ≤ 1099511627776 →
    (∀ r, dV cmp k (P ++ A ++ B ++ S) a m b = some r → JX le P A B S r) ∧ (A.length + B.length ≤ k → ∃ r, dV cmp k (P ++ A ++ B ++ S) a m b = some r)
  | 0, P, A, B, S, a, m, b, hA, hB, oA, oB, sA, sB, ha, hm, hb, hl => by
    refine ⟨fun r h => by simp [dV] at h, fun h => ?_⟩
    exact absurd (List.length_eq_zero_iff.1 (by omega)) hA
  | k + 1, P, A, B, S, a, m, b, hA, hB, oA, oB, sA, sB, ha, hm, hb, hl => by
    have part : ∀ (P' A' B' S' : List α) (a' m' b' : Int), Oks ok A' → Oks ok B' → Srt le A' → Srt le B' → a' = (P'.length : Nat) → m' = ((P'.length + A'.length : Nat) : Int) → b' = ((P'.length + A'.length + B'.length : Nat) : Int) → (P' ++ A' ++ B' ++ S').length ≤ 1099511627776 →
        (∀ r, cond (decide (A' ≠ [] ∧ B' ≠ [])) (dV cmp k (P' ++ A' ++ B' ++ S') a' m' b') (some (P' ++ A' ++ B' ++ S')) = some r → JX le P' A' B' S' r) ∧
        (A'.length + B'.length ≤ k → ∃ r, cond (decide (A' ≠ [] ∧ B' ≠ [])) (dV cmp k (P' ++ A' ++ B' ++ S') a' m' b') (some (P' ++ A' ++ B' ++ S')) = some r) := by
      intro P' A' B' S' a' m' b' oA' oB' sA' sB' ha' hm' hb' hl'
      by_cases h : A' ≠ [] ∧ B' ≠ []
      · rw [decide_eq_true h, cond_true]
        exact II C k P' A' B' S' a' m' b' h.1 h.2 oA' oB' sA' sB' ha' hm' hb' hl'
      · rw [decide_eq_false h, cond_false]
        refine ⟨fun r hr => ?_, fun _ => ⟨_, rfl⟩⟩
        cases hr
        refine ⟨A' ++ B', List.Perm.refl _, ?_, by simp⟩
        by_cases h1 : A' = []
        · subst h1; simpa using sB'
        · have h2 : B' = [] := Classical.byContradiction fun h2 => h ⟨h1, h2⟩
          subst h2; simpa using sA'
    rcases aAv C hA hB oA oB sA sB ha hm hb hl with ⟨r, hr, hs⟩ | ⟨A1, A2, B1, B2, rfl, rfl, p1, p2, hcross, hs⟩
    · have e : dV cmp (k + 1) (P ++ A ++ B ++ S) a m b = some r := hs _
      exact ⟨fun r' h => by rw [e] at h; cases h; exact hr, fun _ => ⟨r, e⟩⟩
    · have e := hs (dV cmp k)
      rw [show dQ cmp (dV cmp k) = dV cmp (k + 1) from rfl] at e
      have q1 := part P A1 B1 (A2 ++ B2 ++ S) a (a + (A1.length : Nat)) (a + ((A1.length + B1.length : Nat) : Int)) (fun x hx => oA x (by simp [hx])) (fun x hx => oB x (by simp [hx]))
        (List.pairwise_append.1 sA).1 (List.pairwise_append.1 sB).1 ha (by omega) (by omega) (by simp only [List.length_append] at hl ⊢; omega)
      have hd1 : P ++ A1 ++ B1 ++ A2 ++ B2 ++ S = P ++ A1 ++ B1 ++ (A2 ++ B2 ++ S) := by simp
      rw [hd1] at e
      have q2 : ∀ D1 : List α, D1.Perm (A1 ++ B1) → _ := fun D1 hD1 => part (P ++ D1) A2 B2 S (a + ((A1.length + B1.length : Nat) : Int)) (a + ((A1.length + B1.length + A2.length : Nat) : Int)) b (fun x hx => oA x (by simp [hx])) (fun x hx => oB x (by simp [hx]))
        (List.pairwise_append.1 sA).2.1 (List.pairwise_append.1 sB).2.1 (by have := hD1.length_eq; simp only [List.length_append] at this ⊢; omega) (by have := hD1.length_eq; simp only [List.length_append] at this ⊢; omega)
        (by have := hD1.length_eq; rw [hb]; simp only [List.length_append] at this ⊢; congr 1; omega) (by have := hD1.length_eq; simp only [List.length_append] at hl this ⊢; omega)
      refine ⟨fun r h => ?_, fun hk => ?_⟩
      · rw [e] at h
        obtain ⟨x, h1, h2⟩ := Option.bind_eq_some_iff.1 h
        obtain ⟨D1, d1, d2, rfl⟩ := q1.1 x h1
        have h2' : cond (decide (A2 ≠ [] ∧ B2 ≠ [])) (dV cmp k (P ++ D1 ++ A2 ++ B2 ++ S) (a + ((A1.length + B1.length : Nat) : Int)) (a + ((A1.length + B1.length + A2.length : Nat) : Int)) b) (some (P ++ D1 ++ A2 ++ B2 ++ S)) = some r := by
          have : P ++ D1 ++ (A2 ++ B2 ++ S) = P ++ D1 ++ A2 ++ B2 ++ S := by simp
          rw [this] at h2; exact h2
        obtain ⟨D2, f1, f2, rfl⟩ := (q2 D1 d1).1 r h2'
        refine ⟨D1 ++ D2, ?_, ?_, by simp⟩
        · refine (d1.append f1).trans ?_
          have : (B1 ++ (A2 ++ B2)).Perm (A2 ++ (B1 ++ B2)) := by
            have := (List.perm_append_comm (l₁ := B1) (l₂ := A2)).append_right B2
            simpa using this
          have := this.append_left A1
          simpa using this
        · rw [Srt, List.pairwise_append]
          exact ⟨d2, f2, fun x hx y hy => hcross x (d1.mem_iff.1 hx) y (f1.mem_iff.1 hy)⟩
      · simp only [List.length_append] at hk
        obtain ⟨x, hx⟩ := q1.2 (by omega)
        obtain ⟨D1, d1, d2, rfl⟩ := q1.1 x hx
        obtain ⟨r, hr⟩ := (q2 D1 d1).2 (by omega)
        refine ⟨r, ?_⟩
        rw [e, hx]
        have : P ++ D1 ++ (A2 ++ B2 ++ S) = P ++ D1 ++ A2 ++ B2 ++ S := by simp
        rw [this]; exact hr

theorem UY {β : Type} {g : Nat → Option β} (h : ∃ k r, g k = some r) : ∃ r, JA g = some r := by
  unfold JA
  rw [dif_pos h]
  exact Classical.choose_spec h

theorem WZ (C : Cmp ok le cmp) {P A B S d : List α} {a m b : Int} (hd : d = P ++ A ++ B ++ S) (hA : A ≠ []) (hB : B ≠ []) (oA : Oks ok A) (oB : Oks ok B) (sA : Srt le A) (sB : Srt le B)
    (ha : a = (P.length : Nat)) (hm : m = ((P.length + A.length : Nat) : Int)) (hb : b = ((P.length + A.length + B.length : Nat) : Int)) (hl : d.length ≤ 1099511627776) :
    ∃ D, D.Perm (A ++ B) ∧ Srt le D ∧ nR d a m b cmp = some (P ++ D ++ S) := by
  subst hd
  unfold nR
  obtain ⟨r, hr⟩ := (II C (A.length + B.length) P A B S a m b hA hB oA oB sA sB ha hm hb hl).2 (Nat.le_refl _)
  obtain ⟨r', hr'⟩ := UY (g := fun k => dV cmp k (P ++ A ++ B ++ S) a m b) ⟨_, r, hr⟩
  obtain ⟨k, hk⟩ := FE hr'
  obtain ⟨D, d1, d2, rfl⟩ := (II C k P A B S a m b hA hB oA oB sA sB ha hm hb hl).1 r' hk
  exact ⟨D, d1, d2, hr'⟩

inductive mE {β : Type} (le : β → β → Prop) (n : Nat) : List β → Prop
  | last {l : List β} : l.length ≤ n → Srt le l → mE le n l
  | cons {x l : List β} : x.length = n → Srt le x → mE le n l → mE le n (x ++ l)

theorem mE.srt {β : Type} {le : β → β → Prop} {n : Nat} {l : List β} (h : mE le n l) (hl : l.length ≤ n) : Srt le l := by
  cases h with
  | last _ h => exact h
  | cons hx hs hr =>
    rename_i x r
    have : r = [] := List.length_eq_zero_iff.1 (by simp only [List.length_append] at hl; omega)
    subst this; simpa using hs

theorem mE.split {β : Type} {le : β → β → Prop} {n : Nat} {l : List β} (h : mE le n l) (hl : n < l.length) : ∃ x r, l = x ++ r ∧ x.length = n ∧ Srt le x ∧ mE le n r := by
  cases h with
  | last h' _ => omega
  | cons hx hs hr => exact ⟨_, _, rfl, hx, hs, hr⟩

theorem mE.aBb {β : Type} {le : β → β → Prop} {n : Nat} {l : List β} (hn : 0 < n) (h : mE le n l) (hl : 2 * n ≤ l.length) : ∃ x y r, l = x ++ y ++ r ∧ x.length = n ∧ y.length = n ∧ Srt le x ∧ Srt le y ∧ mE le n r := by
  obtain ⟨x, r, rfl, h1, h2, h3⟩ := h.split (by omega)
  simp only [List.length_append] at hl
  by_cases he : r.length = n
  · exact ⟨x, r, [], by simp, h1, he, h2, h3.srt (by omega), mE.last (by simp) List.Pairwise.nil⟩
  · obtain ⟨y, r', rfl, e1, e2, e3⟩ := h3.split (by omega)
    exact ⟨x, y, r', by simp, h1, e1, h2, e2, e3⟩

theorem Oks.perm {β : Type} {ok : β → Prop} {l l' : List β} (h : Oks ok l) (hp : l'.Perm l) : Oks ok l' := fun x hx => h x (hp.mem_iff.1 hx)

theorem aBo (C : Cmp ok le cmp) {n1 : Int} : ∀ (n : Nat) (F G : List α), G.length ≤ n → Oks ok G → n1 = ((F.length + G.length : Nat) : Int) → (F ++ G).length ≤ 1099511627776 →
    ∃ G1 G2, (G1 ++ G2).Perm G ∧ G2.length < 20 ∧ (∀ H, H.length ≤ 20 → Srt le H → mE le 20 (G1 ++ H)) ∧
      lp (fun s : List α × Int × Int => lF cmp n1 20 s.1 s.2.1 s.2.2) (F ++ G, ((F.length : Nat) : Int), ((F.length + 20 : Nat) : Int)) = some (F ++ G1 ++ G2, ((F.length + G1.length : Nat) : Int)) := by
  intro n
  induction n with
  | zero =>
    intro F G hn hG h1 hl
    refine ⟨[], G, by simp, by omega, fun H h2 h3 => mE.last (by simpa using h2) (by simpa using h3), ?_⟩
    rw [cI (r := (F ++ G, ((F.length : Nat) : Int)))]
    · simp
    · have : decide (((F.length + 20 : Nat) : Int) ≤ n1) = false := by subst h1; simp; omega
      simp only [lF, this, cond_false]
  | succ n ih =>
    intro F G hn hG h1 hl
    by_cases hg : G.length < 20
    · refine ⟨[], G, by simp, by omega, fun H h2 h3 => mE.last (by simpa using h2) (by simpa using h3), ?_⟩
      rw [cI (r := (F ++ G, ((F.length : Nat) : Int)))]
      · simp
      · have : decide (((F.length + 20 : Nat) : Int) ≤ n1) = false := by subst h1; simp; omega
        simp only [lF, this, cond_false]
    · obtain ⟨X, R, rfl, hX⟩ : ∃ X R, G = X ++ R ∧ X.length = 20 := ⟨G.take 20, G.drop 20, (List.take_append_drop _ _).symm, by rw [List.length_take]; omega⟩
      simp only [List.length_append] at hn hl h1 hg
      obtain ⟨D, d1, d2, d3⟩ := WH C (P := F) (A := X) (T := R) (a := ((F.length : Nat) : Int)) (b := ((F.length + 20 : Nat) : Int)) rfl (by rw [hX]) (fun x hx => hG x (by simp [hx])) (by simp only [List.length_append]; omega)
      have hD : D.length = 20 := by rw [d1.length_eq, hX]
      obtain ⟨G1, G2, g1, g2, g3, g4⟩ := ih (F ++ D) R (by omega) (fun x hx => hG x (by simp [hx])) (by rw [h1]; simp only [List.length_append]; congr 1; omega) (by simp only [List.length_append]; omega)
      refine ⟨D ++ G1, G2, ?_, g2, fun H h2 h3 => ?_, ?_⟩
      · have := d1.append g1
        simpa using this
      · rw [List.append_assoc]; exact mE.cons hD d2 (g3 H h2 h3)
      · have hb : (fun s : List α × Int × Int => lF cmp n1 20 s.1 s.2.1 s.2.2) (F ++ (X ++ R), ((F.length : Nat) : Int), ((F.length + 20 : Nat) : Int)) = some (.inl (F ++ D ++ R, (((F ++ D).length : Nat) : Int), (((F ++ D).length + 20 : Nat) : Int))) := by
          show lF cmp n1 20 _ _ _ = _
          have : decide (((F.length + 20 : Nat) : Int) ≤ n1) = true := by subst h1; simp; omega
          simp only [lF, this, cond_true]
          rw [show F ++ (X ++ R) = F ++ X ++ R by simp, d3]
          simp only [Option.bind_some, List.length_append, hD]
          rw [wr (by omega) (by omega)]
          congr 1
        rw [eD hb, g4]
        simp only [List.length_append, List.append_assoc]
        congr 2
        congr 1; omega

theorem aA9 (C : Cmp ok le cmp) {n1 : Int} {bs : Nat} (hbs : 0 < bs) (hbs' : bs ≤ 1099511627776) : ∀ (n : Nat) (F G : List α), G.length ≤ n → Oks ok G → mE le bs G → n1 = ((F.length + G.length : Nat) : Int) → (F ++ G).length ≤ 1099511627776 →
    ∃ G1 G2, (G1 ++ G2).Perm G ∧ G2.length < 2 * bs ∧ mE le bs G2 ∧ (∀ H, H.length ≤ 2 * bs → Srt le H → mE le (2 * bs) (G1 ++ H)) ∧
      lp (fun s : List α × Int × Int => lH cmp n1 (bs : Int) s.1 s.2.1 s.2.2) (F ++ G, ((F.length : Nat) : Int), ((F.length + 2 * bs : Nat) : Int)) = some (F ++ G1 ++ G2, ((F.length + G1.length : Nat) : Int)) := by
  have stop : ∀ (F G : List α), mE le bs G → G.length < 2 * bs → n1 = ((F.length + G.length : Nat) : Int) → ∃ G1 G2, (G1 ++ G2).Perm G ∧ G2.length < 2 * bs ∧ mE le bs G2 ∧ (∀ H, H.length ≤ 2 * bs → Srt le H → mE le (2 * bs) (G1 ++ H)) ∧
      lp (fun s : List α × Int × Int => lH cmp n1 (bs : Int) s.1 s.2.1 s.2.2) (F ++ G, ((F.length : Nat) : Int), ((F.length + 2 * bs : Nat) : Int)) = some (F ++ G1 ++ G2, ((F.length + G1.length : Nat) : Int)) := by
    intro F G hG hg h1
    refine ⟨[], G, by simp, hg, hG, fun H h2 h3 => mE.last (by simpa using h2) (by simpa using h3), ?_⟩
    rw [cI (r := (F ++ G, ((F.length : Nat) : Int)))]
    · simp
    · have : decide (((F.length + 2 * bs : Nat) : Int) ≤ n1) = false := by subst h1; simp; omega
      show lH cmp n1 _ _ _ _ = _
      simp only [lH, this, cond_false]
  intro n
  induction n with
  | zero => intro F G hn _ hB h1 _; exact stop F G hB (by omega) h1
  | succ n ih =>
    intro F G hn hG hB h1 hl
    by_cases hg : G.length < 2 * bs
    · exact stop F G hB hg h1
    · obtain ⟨x, y, R, rfl, x1, y1, sx, sy, hR⟩ := hB.aBb hbs (by omega)
      simp only [List.length_append] at hn hl h1 hg
      obtain ⟨D, d1, d2, d3⟩ := WZ C (P := F) (A := x) (B := y) (S := R) (d := F ++ (x ++ y ++ R)) (a := ((F.length : Nat) : Int)) (m := ((F.length + bs : Nat) : Int)) (b := ((F.length + 2 * bs : Nat) : Int)) (by simp) (fun h => by rw [h] at x1; simp at x1; omega) (fun h => by rw [h] at y1; simp at y1; omega)
        (fun z hz => hG z (by simp [hz])) (fun z hz => hG z (by simp [hz])) sx sy rfl (by rw [x1]) (by rw [x1, y1]; congr 1; omega) (by simp only [List.length_append]; omega)
      have hD : D.length = 2 * bs := by rw [d1.length_eq]; simp only [List.length_append]; omega
      obtain ⟨G1, G2, g1, g2, g3, g4, g5⟩ := ih (F ++ D) R (by omega) (fun z hz => hG z (by simp [hz])) hR (by rw [h1]; simp only [List.length_append]; congr 1; omega) (by simp only [List.length_append]; omega)
      refine ⟨D ++ G1, G2, ?_, g2, g3, fun H h2 h3 => ?_, ?_⟩
      · have := d1.append g1
        simpa using this
      · rw [List.append_assoc]; exact mE.cons hD d2 (g4 H h2 h3)
      · have hb : (fun s : List α × Int × Int => lH cmp n1 (bs : Int) s.1 s.2.1 s.2.2) (F ++ (x ++ y ++ R), ((F.length : Nat) : Int), ((F.length + 2 * bs : Nat) : Int)) = some (.inl (F ++ D ++ R, (((F ++ D).length : Nat) : Int), (((F ++ D).length + 2 * bs : Nat) : Int))) := by
          show lH cmp n1 _ _ _ _ = _
          have : decide (((F.length + 2 * bs : Nat) : Int) ≤ n1) = true := by subst h1; simp; omega
          have w1 : IntKind.i64.wrap (((F.length : Nat) : Int) + (bs : Int)) = ((F.length + bs : Nat) : Int) := by rw [wr (by omega) (by omega)]; omega
          have w2 : IntKind.i64.wrap (2 * (bs : Int)) = 2 * (bs : Int) := wr (by omega) (by omega)
          have w3 : IntKind.i64.wrap (((F.length + 2 * bs : Nat) : Int) + 2 * (bs : Int)) = ((F.length + 2 * bs + 2 * bs : Nat) : Int) := by rw [wr (by omega) (by omega)]; omega
          simp only [lH, this, cond_true, w1, w2, w3, d3, Option.bind_some, List.length_append, hD]
        rw [eD hb, g5]
        simp only [List.length_append, List.append_assoc]
        congr 2
        congr 1; omega

theorem VE (C : Cmp ok le cmp) {d : List α} {bs : Nat} (hbs : 0 < bs) (hbs' : bs < d.length) (ho : Oks ok d) (hB : mE le bs d) (hl : d.length ≤ 1099511627776) :
    ∃ r, r.Perm d ∧ mE le (2 * bs) r ∧ iY cmp ((d.length : Nat) : Int) d (bs : Int) = some (.inl (r, ((2 * bs : Nat) : Int))) := by
  obtain ⟨G1, G2, g1, g2, g3, g4, g5⟩ := aA9 C (n1 := ((d.length : Nat) : Int)) hbs (by omega) d.length [] d (Nat.le_refl _) ho hB (by simp) (by simpa using hl)
  have hlen := g1.length_eq
  simp only [List.length_append] at hlen
  have w2 : IntKind.i64.wrap (2 * (bs : Int)) = ((2 * bs : Nat) : Int) := by rw [wr (by omega) (by omega)]; omega
  have w4 : IntKind.i64.wrap ((bs : Int) * 2) = ((2 * bs : Nat) : Int) := by rw [wr (by omega) (by omega)]; omega
  have hlt : decide ((bs : Int) < ((d.length : Nat) : Int)) = true := by simp; omega
  simp only [List.nil_append, List.length_nil, Nat.zero_add, Int.natCast_zero] at g5
  have w1 : IntKind.i64.wrap (((G1.length : Nat) : Int) + (bs : Int)) = ((G1.length + bs : Nat) : Int) := by rw [wr (by omega) (by omega)]; omega
  by_cases hg : bs < G2.length
  · obtain ⟨x, y, rfl, x1, sx, hy⟩ := g3.split hg
    simp only [List.length_append] at g2 hg hlen
    have sy : Srt le y := hy.srt (by omega)
    have og : Oks ok (G1 ++ (x ++ y)) := ho.perm g1
    obtain ⟨D, d1, d2, d3⟩ := WZ C (P := G1) (A := x) (B := y) (S := []) (d := G1 ++ (x ++ y)) (a := ((G1.length : Nat) : Int)) (m := ((G1.length + bs : Nat) : Int)) (b := ((d.length : Nat) : Int)) (by simp) (fun h => by rw [h] at x1; simp at x1; omega) (fun h => by rw [h] at hg; simp at hg; omega)
      (fun z hz => og z (by simp [hz])) (fun z hz => og z (by simp [hz])) sx sy rfl (by rw [x1]) (by congr 1; omega) (by simp only [List.length_append]; omega)
    refine ⟨G1 ++ D, ?_, ?_, ?_⟩
    · exact (d1.append_left G1).trans g1
    · exact g4 D (by rw [d1.length_eq]; simp only [List.length_append]; omega) d2
    · have hc : decide (((G1.length + bs : Nat) : Int) < ((d.length : Nat) : Int)) = true := by simp; omega
      simp only [iY, hlt, cond_true, w2, uS, g5, Option.bind_some, vB, w1, hc, d3, yN, w4]
      simp
  · refine ⟨G1 ++ G2, g1, g4 G2 (by omega) (g3.srt (by omega)), ?_⟩
    have hc : decide (((G1.length + bs : Nat) : Int) < ((d.length : Nat) : Int)) = false := by simp; omega
    simp only [iY, hlt, cond_true, w2, uS, g5, Option.bind_some, vB, w1, hc, cond_false, yN, w4]

theorem WX (C : Cmp ok le cmp) : ∀ (n : Nat) (d : List α) (bs : Nat), d.length - bs ≤ n → 0 < bs → Oks ok d → mE le bs d → d.length ≤ 1099511627776 →
    ∃ r, r.Perm d ∧ Srt le r ∧ lp (fun s : List α × Int => iY cmp ((d.length : Nat) : Int) s.1 s.2) (d, (bs : Int)) = some r := by
  have stop : ∀ (d : List α) (bs : Nat), d.length ≤ bs → mE le bs d → ∃ r, r.Perm d ∧ Srt le r ∧ lp (fun s : List α × Int => iY cmp ((d.length : Nat) : Int) s.1 s.2) (d, (bs : Int)) = some r := by
    intro d bs h hB
    refine ⟨d, List.Perm.refl _, hB.srt h, cI ?_⟩
    show iY cmp _ _ _ = _
    have : decide ((bs : Int) < ((d.length : Nat) : Int)) = false := by simp; omega
    simp only [iY, this, cond_false]
  intro n
  induction n with
  | zero => intro d bs hn _ _ hB _; exact stop d bs (by omega) hB
  | succ n ih =>
    intro d bs hn hbs ho hB hl
    by_cases h : d.length ≤ bs
    · exact stop d bs h hB
    · obtain ⟨r, r1, r2, r3⟩ := VE C hbs (by omega) ho hB hl
      obtain ⟨r', e1, e2, e3⟩ := ih r (2 * bs) (by rw [r1.length_eq]; omega) (by omega) (ho.perm r1) r2 (by rw [r1.length_eq]; exact hl)
      rw [r1.length_eq] at e3
      refine ⟨r', e1.trans r1, e2, ?_⟩
      rw [eD (show (fun s : List α × Int => iY cmp ((d.length : Nat) : Int) s.1 s.2) (d, (bs : Int)) = _ from r3)]
      exact e3

theorem MX (C : Cmp ok le cmp) {d : List α} (ho : Oks ok d) (hl : d.length ≤ 1099511627776) : ∃ r, r.Perm d ∧ Srt le r ∧ wN d ((d.length : Nat) : Int) cmp = some r := by
  obtain ⟨G1, G2, g1, g2, g3, g4⟩ := aBo C (n1 := ((d.length : Nat) : Int)) d.length [] d (Nat.le_refl _) ho (by simp) (by simpa using hl)
  have hlen := g1.length_eq
  simp only [List.length_append] at hlen
  have og := ho.perm g1
  obtain ⟨D, d1, d2, d3⟩ := WH C (P := G1) (A := G2) (T := []) (a := ((G1.length : Nat) : Int)) (b := ((d.length : Nat) : Int)) rfl (by congr 1; omega) (fun z hz => og z (by simp [hz])) (by simp only [List.length_append, List.length_nil]; omega)
  have hp : (G1 ++ D).Perm d := (d1.append_left G1).trans g1
  obtain ⟨r, r1, r2, r3⟩ := WX C (G1 ++ D).length (G1 ++ D) 20 (by omega) (by omega) (ho.perm hp) (g3 D (by rw [d1.length_eq]; omega) d2) (by rw [hp.length_eq]; exact hl)
  refine ⟨r, r1.trans hp, r2, ?_⟩
  simp only [List.nil_append, List.length_nil, Nat.zero_add, Int.natCast_zero] at g4
  unfold wN yM
  have g4' : lp (fun s : List α × Int × Int => lF cmp ((d.length : Nat) : Int) 20 s.1 s.2.1 s.2.2) (d, (0 : Int), (20 : Int)) = some (G1 ++ G2, ((G1.length : Nat) : Int)) := g4
  rw [g4']
  simp only [Option.bind_some, yS]
  rw [show G1 ++ G2 = G1 ++ G2 ++ [] by simp, d3]
  simp only [Option.bind_some, yR, List.append_nil]
  rw [hp.length_eq] at r3
  have r3' : lp (fun s : List α × Int => iY cmp ((d.length : Nat) : Int) s.1 s.2) (G1 ++ D, (20 : Int)) = some r := r3
  rw [r3']; rfl

end Go.Abs
namespace Go.Abs
open Go
def zW (n : Int) : Bool := decide (n ≤ 1048576) && decide (-1048576 ≤ n)

theorem TX (n : Int) : uY n = some (zW n) := rfl

def oN (last : Int) (j : aB) : Bool := decide (j.At ≤ last) || decide (1125899906842624 ≤ j.At) || decide (j.Net = 0) || !zW j.Net

def chk (last : Int) : List aB → Bool
  | [] => true
  | j :: r => !oN last j && chk j.At r

def iJ (f : List aB) : Bool := decide (f.length ≤ 1024) && chk (-2) f

theorem PR {f : List aB} {i : Nat} {a : aB} {last : Int} (ha : f[i]? = some a) (hl : f.length < 4611686018427387904) :
    lG f (f.length : Nat) last i = some (if oN last a then .inr (.inr false) else .inl (a.At, ((i + 1 : Nat) : Int))) := by
  obtain ⟨d1, d2, d3, d4⟩ := idx ha hl
  simp only [lG, d1, cond_true, aV d2, d3, d4, TX]
  unfold oN
  cases h : (decide (a.At ≤ last) || decide (1125899906842624 ≤ a.At) || decide (a.Net = 0)) <;> cases h2 : zW a.Net <;> simp [dK]

theorem QB : ∀ (f : List aB) (last : Int), vT (fun last (j : aB) => some (if oN last j then .inr (.inr false) else .inl j.At)) (fun _ => (.inl () : Unit ⊕ Bool)) last f = some (if chk last f then .inl () else .inr false)
  | [], last => by simp [vT, chk]
  | j :: r, last => by
    cases h : oN last j
    · rw [VG (s' := j.At) (by simp [h])]
      rw [QB r j.At]
      simp [chk, h]
    · rw [UW (x := .inr false) (by simp [h])]
      simp [chk, h]

theorem JI (f : List aB) : nP f = some (iJ f) := by
  unfold nP iJ
  by_cases hl : f.length ≤ 1024
  · have h1 : decide ((1024 : Int) < ((f.length : Nat) : Int)) = false := by simp; omega
    rw [h1, cond_false]
    unfold yW
    have key := YM (l := f) (body := fun s : Int × Int => lG f (f.length : Nat) s.1 s.2) (fun last i => (last, i)) _ _
      (fun i a s ha => by
        constructor
        · intro s' hs
          show lG f (f.length : Nat) s i = _
          rw [PR ha (by omega)]
          split at hs <;> simp_all
        · intro x hs
          show lG f (f.length : Nat) s i = _
          rw [PR ha (by omega)]
          split at hs <;> simp_all)
      (fun s => by show lG f (f.length : Nat) s (f.length : Nat) = _; simp only [lG, dP, cond_false]) (QB f (-2))
    rw [key]
    cases h : chk (-2) f <;> simp [vF, hl]
  · have h1 : decide ((1024 : Int) < ((f.length : Nat) : Int)) = true := by simp; omega
    rw [h1, cond_true]
    simp [hl]

theorem kQ {last : Int} {j : aB} : oN last j = false ↔ last < j.At ∧ j.At < 1125899906842624 ∧ j.Net ≠ 0 ∧ j.Net ≤ 1048576 ∧ -1048576 ≤ j.Net := by
  simp [oN, zW]
  omega

def tG (last : Int) : List aB → Prop
  | [] => True
  | j :: r => (last < j.At ∧ j.At < 1125899906842624 ∧ j.Net ≠ 0 ∧ j.Net ≤ 1048576 ∧ -1048576 ≤ j.Net) ∧ tG j.At r

theorem TM : ∀ {f : List aB} {last : Int}, chk last f = true ↔ tG last f
  | [], last => by simp [chk, tG]
  | j :: r, last => by simp [chk, tG, kQ, TM]

theorem nX {f : List aB} : iJ f = true ↔ f.length ≤ 1024 ∧ tG (-2) f := by simp [iJ, TM]

theorem tG.above : ∀ {f : List aB} {last : Int}, tG last f → ∀ j ∈ f, last < j.At ∧ j.At < 1125899906842624 ∧ j.Net ≠ 0 ∧ j.Net ≤ 1048576 ∧ -1048576 ≤ j.Net
  | [], _, _, j, hj => by simp at hj
  | a :: r, last, h, j, hj => by
    rcases List.mem_cons.1 hj with rfl | hj
    · exact h.1
    · have := h.2.above j hj
      have h1 := h.1.1
      exact ⟨by omega, this.2⟩

def val (f : List aB) (t : Int) : Int := (f.map fun j => if j.At ≤ t then j.Net else 0).sum

theorem sD (t : Int) : val [] t = 0 := rfl

theorem cQ (j : aB) (r : List aB) (t : Int) : val (j :: r) t = (if j.At ≤ t then j.Net else 0) + val r t := by simp [val]

theorem DR (f g : List aB) (t : Int) : val (f ++ g) t = val f t + val g t := by simp [val]

theorem zI {f : List aB} {t : Int} (h : ∀ j ∈ f, t < j.At) : val f t = 0 := by
  induction f with
  | nil => rfl
  | cons j r ih =>
    rw [cQ, ih (fun k hk => h k (List.mem_cons_of_mem _ hk))]
    have := h j (List.mem_cons_self ..)
    rw [if_neg (by omega)]; rfl

theorem aAk (f : List aB) : sC f = some (if iJ f then (f, 0) else ([], 7)) := by
  unfold sC
  rw [JI]
  cases h : iJ f <;> simp

end Go.Abs
namespace Go.Abs
open Go
section both
variable {op : Int → Int → Option Int} {f g r : List aB} {out : List aB} {a b was t : Int} {j : aB}
end both
def emit (p v was : Int) : List aB := if v = was then [] else [⟨p, v - was⟩]

def nK (was : Int) : List (Int × Int) → List aB
  | [] => []
  | x :: r => emit x.1 x.2 was ++ nK x.2 r

def merge (f g : List aB) (a b : Int) : List (Int × Int × Int) :=
  match f, g with
  | [], [] => []
  | j :: f, [] => (j.At, a + j.Net, b) :: merge f [] (a + j.Net) b
  | [], k :: g => (k.At, a, b + k.Net) :: merge [] g a (b + k.Net)
  | j :: f, k :: g =>
    if j.At < k.At then (j.At, a + j.Net, b) :: merge f (k :: g) (a + j.Net) b
    else if k.At < j.At then (k.At, a, b + k.Net) :: merge (j :: f) g a (b + k.Net)
    else (j.At, a + j.Net, b + k.Net) :: merge f g (a + j.Net) (b + k.Net)

termination_by f.length + g.length
end Go.Abs
namespace Go.Abs
open Go
def comb (OP : Int → Int → Int) (f g : List aB) : List aB := nK 0 ((merge f g 0 0).map fun x => (x.1, OP x.2.1 x.2.2))

def told (f : List aB) : List aB × Int := if iJ f then (f, 0) else ([], 7)

theorem YR (f : List aB) : sC f = some (told f) := aAk f

def two (OP : Int → Int → Int) (f g : List aB) : List aB × Int := if iJ f && iJ g then told (comb OP f g) else ([], 2)

end Go.Abs
namespace Go.Abs
open Go
theorem ZP (p v was t : Int) : val (emit p v was) t = if p ≤ t then v - was else 0 := by
  unfold emit
  by_cases h : v = was
  · rw [if_pos h, sD, h]; split <;> omega
  · rw [if_neg h, cQ, sD]; simp

theorem tG.yJ {l t : Int} {f : List aB} (h : tG l f) (ht : t ≤ l) : val f t = 0 := zI fun j hj => by have := (h.above j hj).1; omega

end Go.Abs
namespace Go.Abs
open Go
def vC (f : List aB) : Nat → Int
  | 0 => -2
  | k + 1 => (f.getD k default).At

theorem SO {f : List aB} {i : Nat} {a : aB} {last : Int} (ha : f[i]? = some a) (hl : f.length ≤ 1024) (hlast : last = vC f i) (hp : -2 ≤ last) (hp' : 0 < i → -1 ≤ last) :
    kM f i = some (if oN last a then .inr (.inr false) else .inl ((i + 1 : Nat) : Int)) := by
  obtain ⟨d1, d2, d3, d4⟩ := idx ha (by omega)
  have hlt : i < f.length := (List.getElem?_eq_some_iff.1 ha).1
  simp only [kM, d1, cond_true, d3, d4]
  rw [aV d2, aV (fun _ => d2), aV (fun _ => d2), aV (fun _ => d2), aV (fun _ => d2), aV (fun _ => d2)]
  cases i with
  | zero =>
    rw [aV (fun h => by simp at h)]
    have hm2 : last = -2 := hlast
    subst hm2
    by_cases hb : oN (-2) a = true
    · rw [if_pos hb]
      have hx : (((((decide (a.At < -1)) || (decide (1125899906842624 ≤ a.At))) || (decide (a.Net = 0))) || (decide (1048576 < a.Net))) || (decide (a.Net < -1048576))) = true := by
        simp [oN, zW] at hb ⊢; omega
      rw [hx, cond_true]
    · have hb' : oN (-2) a = false := by simpa using hb
      rw [if_neg hb]
      rw [kQ] at hb'
      have hx : (((((decide (a.At < -1)) || (decide (1125899906842624 ≤ a.At))) || (decide (a.Net = 0))) || (decide (1048576 < a.Net))) || (decide (a.Net < -1048576))) = false := by
        simp; omega
      rw [hx, cond_false]
      simp
  | succ k =>
    have hw : IntKind.i64.wrap (((k + 1 : Nat) : Int) - 1) = (k : Int) := by rw [fC (by omega) (by omega)]; omega
    have hg : List.getD f (Int.toNat (k : Int)) default = f.getD k default := by rw [Int.toNat_natCast]
    rw [hw, hg, aV (fun _ => ⟨by omega, by omega⟩)]
    have hpos : decide ((0 : Int) < ((k + 1 : Nat) : Int)) = true := by simp
    have hp1 := hp' (by omega)
    have hl2 : (f.getD k default).At = last := hlast.symm
    rw [hpos, Bool.true_and, hl2]
    by_cases hb : oN last a = true
    · rw [if_pos hb]
      by_cases hx : (((((decide (a.At < -1)) || (decide (1125899906842624 ≤ a.At))) || (decide (a.Net = 0))) || (decide (1048576 < a.Net))) || (decide (a.Net < -1048576))) = true
      · rw [hx, cond_true]
      · have hx' : (((((decide (a.At < -1)) || (decide (1125899906842624 ≤ a.At))) || (decide (a.Net = 0))) || (decide (1048576 < a.Net))) || (decide (a.Net < -1048576))) = false := by simpa using hx
        have hy : decide (a.At ≤ last) = true := by
          simp [oN, zW] at hb hx' ⊢; omega
        rw [hx', cond_false, hy, cond_true]
    · have hb' : oN last a = false := by simpa using hb
      rw [if_neg hb]
      rw [kQ] at hb'
      have hx : (((((decide (a.At < -1)) || (decide (1125899906842624 ≤ a.At))) || (decide (a.Net = 0))) || (decide (1048576 < a.Net))) || (decide (a.Net < -1048576))) = false := by
        simp; omega
      have hy : decide (a.At ≤ last) = false := by simp; omega
      rw [hx, cond_false, hy, cond_false]

theorem MM {f : List aB} (hl : f.length ≤ 1024) : ∀ (m k : Nat), f.length - k = m → k ≤ f.length → -2 ≤ vC f k → (0 < k → -1 ≤ vC f k) → lp (fun s => kM f s) (k : Int) = some (if chk (vC f k) (f.drop k) = true then .inl () else .inr false)
  | 0, k, hm, hk, _, _ => by
    have : k = f.length := by omega
    subst this
    rw [List.drop_length]
    refine cI ?_
    show kM f _ = _
    simp [kM, chk]
  | m + 1, k, hm, hk, hp, hp' => by
    have h1 : k < f.length := by omega
    have hb := SO (List.getElem?_eq_getElem h1) hl rfl hp hp'
    have e1 : f.drop k = f[k] :: f.drop (k + 1) := List.drop_eq_getElem_cons h1
    have hpa : vC f (k + 1) = f[k].At := by simp [vC, List.getD_eq_getElem?_getD, h1]
    rw [e1]
    by_cases h : oN (vC f k) f[k] = true
    · rw [if_pos h] at hb
      rw [cI (show (fun s => kM f s) (k : Int) = _ from hb)]
      simp [chk, h]
    · rw [if_neg h] at hb
      have h' : oN (vC f k) f[k] = false := by simpa using h
      have := kQ.1 h'
      rw [eD (show (fun s => kM f s) (k : Int) = _ from hb), MM hl m (k + 1) (by omega) (by omega) (by rw [hpa]; omega) (fun _ => by rw [hpa]; omega), hpa]
      simp [chk, h']

theorem GV (f : List aB) : nU f = some (iJ f) := by
  unfold nU iJ
  by_cases hl : f.length ≤ 1024
  · have h1 : decide ((1024 : Int) < ((f.length : Nat) : Int)) = false := by simp; omega
    rw [h1, cond_false]
    unfold xK
    have := MM hl f.length 0 rfl (Nat.zero_le _) (by simp [vC]) (by omega)
    simp only [Int.natCast_zero, List.drop_zero, vC] at this
    rw [this]
    cases h : chk (-2) f <;> simp [tB, hl]
  · have h1 : decide ((1024 : Int) < ((f.length : Nat) : Int)) = true := by simp; omega
    rw [h1, cond_true]
    simp [hl]

end Go.Abs
namespace Go.Abs
open Go
def VK (f : List aB) : Int := (f.map aB.Net).sum

def LL (t : Int) : List aB → List aB
  | [] => []
  | j :: r => if t ≤ j.At then [] else j :: LL t r

def aft (t : Int) : List aB → List aB
  | [] => []
  | j :: r => if t ≤ j.At then j :: r else aft t r

def aBa (t : Int) (f : List aB) : List aB := LL t f ++ (if VK (LL t f) = 0 then [] else [⟨t, -VK (LL t f)⟩])

def ahead (f : List aB) (t : Int) : List aB × Int :=
  if iJ f then (if 1125899906842624 ≤ t then (f, 0) else told (aBa t f)) else ([], 2)

end Go.Abs
namespace Go.Abs
open Go
def aBw (t : Int) (f : List aB) : List aB := (if VK (LL t f) = 0 then [] else [⟨-1, VK (LL t f)⟩]) ++ aft t f

def rest (f : List aB) (t : Int) : List aB × Int :=
  if iJ f then (if 1125899906842624 ≤ t then ([], 0) else if t ≤ -1 then (f, 0) else told (aBw t f)) else ([], 2)

end Go.Abs
namespace Go.Abs
open Go
def Up (last : Int) : List aB → Prop
  | [] => True
  | j :: r => (last < j.At ∧ j.At < 1125899906842624 ∧ j.Net ≠ 0) ∧ Up j.At r

theorem Up.above : ∀ {f : List aB} {last : Int}, Up last f → ∀ j ∈ f, last < j.At ∧ j.At < 1125899906842624 ∧ j.Net ≠ 0
  | [], _, _, j, hj => by simp at hj
  | a :: r, last, h, j, hj => by
    rcases List.mem_cons.1 hj with rfl | hj
    · exact h.1
    · have := h.2.above j hj
      have h1 := h.1.1
      exact ⟨by omega, this.2⟩

theorem Up.yJ {l t : Int} {f : List aB} (h : Up l f) (ht : t ≤ l) : val f t = 0 := zI fun j hj => by have := (h.above j hj).1; omega

theorem Up.weaken {a b : Int} {f : List aB} (h : Up b f) (hab : a ≤ b) : Up a f := by
  cases f with
  | nil => trivial
  | cons j r => exact ⟨⟨by have := h.1.1; omega, h.1.2⟩, h.2⟩

theorem tG.up : ∀ {f : List aB} {last : Int}, tG last f → Up last f
  | [], _, _ => trivial
  | _ :: _, _, h => ⟨⟨h.1.1, h.1.2.1, h.1.2.2.1⟩, h.2.up⟩

theorem Up.ext : ∀ {f g : List aB} {last : Int}, Up last f → Up last g → (∀ t, last < t → t < 1125899906842624 → val f t = val g t) → f = g
  | [], [], _, _, _, _ => rfl
  | j :: r, [], last, hf, _, h => by
    have := h j.At hf.1.1 hf.1.2.1
    rw [cQ, if_pos (Int.le_refl _), hf.2.yJ (Int.le_refl _), sD] at this
    exact absurd (by omega) hf.1.2.2
  | [], k :: s, last, _, hg, h => by
    have := h k.At hg.1.1 hg.1.2.1
    rw [cQ, if_pos (Int.le_refl _), hg.2.yJ (Int.le_refl _), sD] at this
    exact absurd (by omega) hg.1.2.2
  | j :: r, k :: s, last, hf, hg, h => by
    have h1 := h j.At hf.1.1 hf.1.2.1
    have h2 := h k.At hg.1.1 hg.1.2.1
    rw [cQ, if_pos (Int.le_refl _), hf.2.yJ (Int.le_refl _), cQ] at h1
    rw [cQ, cQ k, if_pos (Int.le_refl _), hg.2.yJ (Int.le_refl _)] at h2
    have n1 := hf.1.2.2
    have n2 := hg.1.2.2
    have he : j.At = k.At := by
      rcases Int.lt_trichotomy j.At k.At with h3 | h3 | h3
      · rw [if_neg (by omega), hg.2.yJ (by omega)] at h1; omega
      · exact h3
      · rw [if_neg (by omega), hf.2.yJ (by omega)] at h2; omega
    rw [if_pos (by omega), hg.2.yJ (by omega)] at h1
    have hj : j = k := by
      obtain ⟨a, b⟩ := j; obtain ⟨c, d⟩ := k
      simp only at he h1
      simp only [Int.add_zero] at h1
      rw [he, h1]
    subst hj
    rw [hf.2.ext hg.2 (fun t ht ht' => by
      have := h t (by have := hf.1.1; omega) ht'
      rw [cQ, cQ] at this; omega)]

def Inc (last : Int) : List Int → Prop
  | [] => True
  | p :: r => (last < p ∧ p < 1125899906842624) ∧ Inc p r

theorem Inc.above : ∀ {ps : List Int} {last : Int}, Inc last ps → ∀ p ∈ ps, last < p ∧ p < 1125899906842624
  | [], _, _, j, hj => by simp at hj
  | a :: r, last, h, j, hj => by
    rcases List.mem_cons.1 hj with rfl | hj
    · exact h.1
    · have := h.2.above j hj
      have h1 := h.1.1
      exact ⟨by omega, this.2⟩

theorem BC : ∀ {l : List (Int × Int)} {last was : Int}, Inc last (l.map Prod.fst) → Up last (nK was l)
  | [], _, _, _ => trivial
  | x :: r, last, was, h => by
    simp only [nK]
    have ih : Up x.1 (nK x.2 r) := BC h.2
    have h1 : last < x.1 ∧ x.1 < 1125899906842624 := h.1
    unfold emit
    split
    · exact ih.weaken (by omega)
    · exact ⟨⟨h1.1, h1.2, by simp only; omega⟩, ih⟩

theorem CF {F : Int → Int} : ∀ {ps : List Int} {last : Int}, Inc last ps → (∀ s t, last ≤ s → s ≤ t → t < 1125899906842624 → (∀ p ∈ ps, ¬ (s < p ∧ p ≤ t)) → F s = F t) →
    ∀ t, last ≤ t → t < 1125899906842624 → val (nK (F last) (ps.map fun p => (p, F p))) t = F t - F last
  | [], last, _, hF, t, h1, h2 => by
    have := hF last t (Int.le_refl _) h1 h2 (by simp)
    simp [nK, val, this]
  | p :: r, last, hi, hF, t, h1, h2 => by
    simp only [List.map_cons, nK]
    rw [DR, ZP]
    by_cases hp : p ≤ t
    · rw [if_pos hp, CF (F := F) hi.2 (fun s t' hs hst ht' hn => hF s t' (by have := hi.1.1; omega) hst ht' (fun q hq => by
        rcases List.mem_cons.1 hq with rfl | hq
        · omega
        · exact hn q hq)) t hp h2]
      omega
    · have := hF last t (Int.le_refl _) h1 h2 (fun q hq => by
        rcases List.mem_cons.1 hq with rfl | hq
        · omega
        · have := (hi.2.above q hq).1; omega)
      rw [if_neg hp, Up.yJ (BC (last := p) (by rw [List.map_map]; simpa [Function.comp_def] using hi.2)) (by omega)]
      omega

theorem ZX {F : Int → Int} (h2 : F (-2) = 0) {ps : List Int} (hi : Inc (-2) ps) (hF : ∀ s t, -2 ≤ s → s ≤ t → t < 1125899906842624 → (∀ p ∈ ps, ¬ (s < p ∧ p ≤ t)) → F s = F t) {h : List aB} (hh : Up (-2) h) (hv : ∀ t, -2 < t → t < 1125899906842624 → val h t = F t) :
    nK 0 (ps.map fun p => (p, F p)) = h := by
  refine (BC (by rw [List.map_map]; simpa [Function.comp_def] using hi)).ext hh fun t h3 h4 => ?_
  have := CF hi hF t (by omega) h4
  rw [h2] at this
  rw [this, hv t h3 h4]; omega

end Go.Abs
namespace Go.Abs
open Go
theorem SI {f : List aB} (t : Int) (hb : ∀ j ∈ f, j.Net ≤ 1048576 ∧ -1048576 ≤ j.Net) (hl : f.length ≤ 1099511627776) : lZ f t = some (val f t) := by
  unfold lZ uA
  rw [mK (l := f) (body := fun s : Int × Int => iQ f t s.1 s.2) (fun v i => (v, i)) (fun v r => v + val r t)
    (fun v r => (∀ j ∈ r, j.Net ≤ 1048576 ∧ -1048576 ≤ j.Net) ∧ r.length ≤ 1099511627776 ∧ v ≤ 1048576 * (1099511627776 - r.length) ∧ -(1048576 * (1099511627776 - r.length)) ≤ v) 0 ?_ ?_ ?_]
  · simp [qD]
  · intro i a r v ha ⟨h1, h2, h3, h4⟩
    obtain ⟨d1, d2, d3, d4⟩ := idx ha (by omega)
    have hj := h1 a (List.mem_cons_self ..)
    simp only [List.length_cons] at h2 h3 h4
    left
    by_cases h : a.At ≤ t
    · refine ⟨v + a.Net, ?_, ⟨fun j hj => h1 j (List.mem_cons_of_mem _ hj), by omega, by omega, by omega⟩, ?_⟩
      · show iQ f t v i = _
        have hw : IntKind.i64.wrap (v + a.Net) = v + a.Net := fC (by omega) (by omega)
        simp only [iQ, oC, d1, cond_true, aV d2, d3, d4, h, decide_true, hw]
      · show v + a.Net + val r t = v + val (a :: r) t
        rw [cQ, if_pos h]; omega
    · refine ⟨v, ?_, ⟨fun j hj => h1 j (List.mem_cons_of_mem _ hj), by omega, by omega, by omega⟩, ?_⟩
      · show iQ f t v i = _
        simp only [iQ, oC, d1, cond_true, aV d2, d3, d4, h, decide_false, cond_false]
      · show v + val r t = v + val (a :: r) t
        rw [cQ, if_neg h]; omega
  · intro s _
    show iQ f t s (f.length : Nat) = _
    simp only [iQ, dP, cond_false]
    simp [val]
  · exact ⟨hb, hl, by omega, by omega⟩

theorem AT {f : List aB} (h : iJ f = true) : ∀ j ∈ f, j.Net ≤ 1048576 ∧ -1048576 ≤ j.Net := fun j hj => by have := (nX.1 h).2.above j hj; omega

theorem GX {f : List aB} (h : iJ f = true) (t : Int) : lZ f t = some (val f t) :=
  SI t (AT h) (by have := (nX.1 h).1; omega)

def kN (t : Int) : List Int → List Int
  | [] => [t]
  | p :: r => if p = t then p :: r else if t < p then t :: p :: r else p :: kN t r

theorem zG {t x : Int} : ∀ {ps : List Int}, x ∈ kN t ps ↔ x = t ∨ x ∈ ps
  | [] => by simp [kN]
  | p :: r => by
    unfold kN
    split
    · rename_i h; subst h; simp
    · split
      · simp
      · simp only [List.mem_cons, zG (ps := r)]; constructor <;> (intro h; rcases h with h | h | h <;> simp [h])

theorem wK {t : Int} : ∀ {ps : List Int} {last : Int}, Inc last ps → last < t → t < 1125899906842624 → Inc last (kN t ps)
  | [], last, _, h1, h2 => ⟨⟨h1, h2⟩, trivial⟩
  | p :: r, last, h, h1, h2 => by
    unfold kN
    split
    · exact h
    · split
      · rename_i h3 h4
        exact ⟨⟨h1, h2⟩, ⟨h4, h.1.2⟩, h.2⟩
      · exact ⟨h.1, wK h.2 (by omega) h2⟩

theorem CJ {t : Int} : ∀ {ps : List Int}, (kN t ps).length ≤ ps.length + 1
  | [] => by simp [kN]
  | p :: r => by
    unfold kN
    split
    · simp
    · split
      · simp
      · simp only [List.length_cons]; have := CJ (t := t) (ps := r); omega

theorem GP {t : Int} : ∀ {ps : List Int}, (∀ x ∈ ps, x < t) → kN t ps = ps ++ [t]
  | [], _ => rfl
  | p :: r, h => by
    have := h p (List.mem_cons_self ..)
    unfold kN
    rw [if_neg (by omega), if_neg (by omega), GP (fun x hx => h x (List.mem_cons_of_mem _ hx))]; rfl

theorem KG {t : Int} : ∀ {ps : List Int} {last : Int}, Inc last ps → t ∈ ps → kN t ps = ps
  | [], _, _, h => by simp at h
  | p :: r, last, hi, h => by
    unfold kN
    split
    · rfl
    · rename_i hp
      rcases List.mem_cons.1 h with h | h
      · exact absurd h.symm hp
      · have := (hi.2.above t h).1
        rw [if_neg (by omega), KG hi.2 h]

theorem XF {l out : List Int} {t a : Int} {put : Bool} {i : Nat} (ha : l[i]? = some a) (hl : l.length ≤ 1099511627776) (ho : out.length ≤ 2199023255552) :
    gJ l t out put i = some (if a = t then .inr (.inr l) else if t < a ∧ put = false then .inl (out ++ [t] ++ [a], true, ((i + 1 : Nat) : Int)) else .inl (out ++ [a], put, ((i + 1 : Nat) : Int))) := by
  obtain ⟨d1, d2, d3, d4⟩ := idx ha (by omega)
  simp only [gJ, rJ, d1, cond_true, aV d2, d3, d4]
  by_cases h1 : a = t
  · simp [h1]
  · rw [decide_eq_false h1, cond_false, if_neg h1]
    by_cases h2 : t < a
    · cases put
      · simp only [h2, decide_true, Bool.not_false, Bool.and_self, cond_true, and_self, if_true]
        rw [aV (by simp only [List.length_cons, List.length_nil]; omega), aV (by simp only [List.length_append, List.length_cons, List.length_nil]; omega)]
      · simp only [h2, decide_true, Bool.not_true, Bool.and_false, cond_false, and_false, if_false, reduceCtorEq]
        rw [aV (by simp only [List.length_cons, List.length_nil]; omega)]
    · simp only [h2, decide_false, Bool.false_and, cond_false, false_and, if_false]
      rw [aV (by simp only [List.length_cons, List.length_nil]; omega)]

theorem TZ {l : List Int} {last t : Int} (hi : Inc last l) (hl : l.length ≤ 1099511627776) : qN l t = some (kN t l) := by
  unfold qN wA
  rw [mK (l := l) (body := fun s : List Int × Bool × Int => gJ l t s.1 s.2.1 s.2.2) (fun (s : List Int × Bool) i => (s.1, s.2, i))
    (fun s r => if s.2 then .inl (s.1 ++ r, true) else if t ∈ r then .inr l else if (∃ x ∈ r, t < x) then .inl (s.1 ++ kN t r, true) else .inl (s.1 ++ r, false))
    (fun s r => (∃ m, Inc m r) ∧ (s.2 = true → ∀ x ∈ r, t < x) ∧ r.length ≤ 1099511627776 ∧ s.1.length + r.length ≤ 1099511627777 + (if s.2 then 1 else 0)) ([], false) ?_ ?_ ?_]
  · simp only [Bool.false_eq_true, if_false, List.nil_append, Option.bind_some]
    by_cases h1 : t ∈ l
    · simp [h1, KG hi h1]
    · simp only [h1, if_false]
      by_cases h2 : ∃ x ∈ l, t < x
      · simp only [h2, if_true]
        simp [oY, oX]
      · simp only [h2, if_false]
        have : ∀ x ∈ l, x < t := fun x hx => by
          have h3 : ¬ t < x := fun h => h2 ⟨x, hx, h⟩
          have h4 : x ≠ t := fun h => h1 (h ▸ hx)
          omega
        rw [GP this]
        simp only [Sum.elim_inl, oY, oX, Bool.not_false, cond_true]
        rw [aV (by simp only [List.length_cons, List.length_nil]; omega)]
  · rintro i a r ⟨out, put⟩ ha ⟨⟨m, hm⟩, h1, h2, h3⟩
    simp only [List.length_cons] at h2 h3
    have hb := XF (t := t) (put := put) (out := out) ha hl (by split at h3 <;> omega)
    have hab : ∀ x ∈ r, a < x := fun x hx => (hm.2.above x hx).1
    cases put
    · by_cases e : a = t
      · right
        show gJ l t out false i = _
        rw [hb]; simp [e]
      · left
        by_cases e2 : t < a
        · have hnt : t ∉ a :: r := fun h => by
            rcases List.mem_cons.1 h with h | h
            · exact e h.symm
            · have := hab t h; omega
          refine ⟨(out ++ [t] ++ [a], true), ?_, ⟨⟨a, hm.2⟩, fun _ x hx => by have := hab x hx; omega, by omega, by simp only [List.length_append, List.length_cons, List.length_nil, Bool.false_eq_true, if_false, if_true] at h3 ⊢; omega⟩, ?_⟩
          · show gJ l t out false i = _
            rw [hb]; simp [e, e2]
          · have hex : ∃ x ∈ a :: r, t < x := ⟨a, List.mem_cons_self .., e2⟩
            simp only [if_true, Bool.false_eq_true, if_false, hnt, hex]
            simp [kN, e, e2]
        · refine ⟨(out ++ [a], false), ?_, ⟨⟨a, hm.2⟩, fun h => absurd h (by simp), by omega, by simp only [List.length_append, List.length_cons, List.length_nil, Bool.false_eq_true, if_false] at h3 ⊢; omega⟩, ?_⟩
          · show gJ l t out false i = _
            rw [hb]; simp [e, e2]
          · have i1 : (t ∈ a :: r) ↔ t ∈ r := by simp only [List.mem_cons]; constructor; (intro h; rcases h with h | h; exact absurd h.symm e; exact h); exact Or.inr
            have i2 : (∃ x ∈ a :: r, t < x) ↔ (∃ x ∈ r, t < x) := by
              constructor
              · rintro ⟨x, hx, hx'⟩
                rcases List.mem_cons.1 hx with rfl | hx
                · exact absurd hx' e2
                · exact ⟨x, hx, hx'⟩
              · rintro ⟨x, hx, hx'⟩; exact ⟨x, List.mem_cons_of_mem _ hx, hx'⟩
            simp only [Bool.false_eq_true, if_false, i1, i2]
            simp [kN, e, e2]
    · left
      have ht := h1 rfl a (List.mem_cons_self ..)
      refine ⟨(out ++ [a], true), ?_, ⟨⟨a, hm.2⟩, fun _ x hx => h1 rfl x (List.mem_cons_of_mem _ hx), by omega, by simp only [List.length_append, List.length_cons, List.length_nil, if_true] at h3 ⊢; omega⟩, ?_⟩
      · show gJ l t out true i = _
        have : a ≠ t := by omega
        rw [hb]; simp [this]
      · simp
  · rintro ⟨out, put⟩ _
    show gJ l t out put (l.length : Nat) = _
    simp only [gJ, dP, cond_false]
    cases put <;> simp
  · exact ⟨⟨last, hi⟩, fun h => absurd h (by simp), hl, by simp only [List.length_nil]; simp; omega⟩

def LF (ps : List Int) (f : List aB) : List Int := f.foldl (fun ps j => kN j.At ps) ps

theorem IX {x : Int} : ∀ {f : List aB} {ps : List Int}, x ∈ LF ps f ↔ x ∈ ps ∨ ∃ j ∈ f, j.At = x
  | [], ps => by simp [LF]
  | k :: r, ps => by
    have := IX (x := x) (f := r) (ps := kN k.At ps)
    unfold LF at this ⊢
    rw [List.foldl_cons, this, zG]
    constructor
    · rintro ((h | h) | ⟨j, h, h'⟩)
      · exact Or.inr ⟨k, List.mem_cons_self .., h.symm⟩
      · exact Or.inl h
      · exact Or.inr ⟨j, List.mem_cons_of_mem _ h, h'⟩
    · rintro (h | ⟨j, h, h'⟩)
      · exact Or.inl (Or.inr h)
      · rcases List.mem_cons.1 h with rfl | h
        · exact Or.inl (Or.inl h'.symm)
        · exact Or.inr ⟨j, h, h'⟩

theorem RQ : ∀ {f : List aB} {ps : List Int} {last : Int}, Inc last ps → (∀ j ∈ f, last < j.At ∧ j.At < 1125899906842624) → Inc last (LF ps f)
  | [], _, _, h, _ => h
  | k :: r, ps, last, h, hf => by
    have hk := hf k (List.mem_cons_self ..)
    exact RQ (f := r) (wK h hk.1 hk.2) fun j hj => hf j (List.mem_cons_of_mem _ hj)

theorem UL {ps : List Int} {F : Int → Int} (hl : ps.length ≤ 1099511627776) (hb : ∀ p ∈ ps, -2305843009213693952 ≤ F p ∧ F p ≤ 2305843009213693952) :
    tF ps (ps.map F) = some (told (nK 0 (ps.map fun p => (p, F p)))) := by
  unfold tF vO
  rw [mK (l := ps) (body := fun s : List aB × Int × Int => lX ps (ps.map F) s.1 s.2.1 s.2.2) (fun (s : List aB × Int) i => (s.1, s.2, i))
    (fun s r => s.1 ++ nK s.2 (r.map fun p => (p, F p))) (fun s r => (∀ p ∈ r, -2305843009213693952 ≤ F p ∧ F p ≤ 2305843009213693952) ∧ (-2305843009213693952 ≤ s.2 ∧ s.2 ≤ 2305843009213693952) ∧ s.1.length + r.length ≤ 1099511627776) ([], 0) ?_ ?_ ?_]
  · simp only [List.nil_append, Option.bind_some, rP, GV, told]
    cases h : iJ (nK 0 (ps.map fun p => (p, F p))) <;> simp
  · rintro i a r ⟨out, was⟩ ha ⟨h1, h2, h3⟩
    simp only [List.length_cons] at h2 h3
    obtain ⟨d1, d2, d3, d4⟩ := idx ha (by omega)
    have ha' : (ps.map F)[i]? = some (F a) := by rw [List.getElem?_map, ha]; rfl
    obtain ⟨_, e2, e3, _⟩ := idx ha' (by rw [List.length_map]; omega)
    have hF := h1 a (List.mem_cons_self ..)
    left
    refine ⟨(out ++ emit a (F a) was, F a), ?_, ⟨fun p hp => h1 p (List.mem_cons_of_mem _ hp), hF, ?_⟩, ?_⟩
    · show lX ps (ps.map F) out was i = _
      have hw : IntKind.i64.wrap (F a - was) = F a - was := fC (by omega) (by omega)
      simp only [lX, rE, d1, cond_true, aV d2, aV e2, e3, d3, d4, hw]
      unfold emit
      by_cases h : F a = was
      · simp [h]
      · simp only [h, decide_false, Bool.not_false, cond_true, if_false]
        rw [aV (by simp only [List.length_cons, List.length_nil]; omega)]
    · have : (emit a (F a) was).length ≤ 1 := by unfold emit; split <;> simp
      simp only [List.length_append]; omega
    · simp [nK]
  · rintro ⟨out, was⟩ _
    show lX ps (ps.map F) out was (ps.length : Nat) = _
    simp only [lX, dP, cond_false]
    simp [nK]
  · exact ⟨hb, ⟨by omega, by omega⟩, by simp only [List.length_nil]; omega⟩

end Go.Abs
namespace Go.Abs
open Go
def mn (a b : Int) : Int := if b < a then b else a

def parts (v : Int) : List aB → List Int
  | [] => []
  | j :: r => (v + j.Net) :: parts (v + j.Net) r

def sV (f : List aB) : Int := (f.map fun j => val f j.At).foldl mn (val f (-1))

theorem parts_eq : ∀ {f : List aB} {l v : Int}, tG l f → parts v f = f.map fun j => v + val f j.At
  | [], _, _, _ => rfl
  | j :: r, l, v, h => by
    simp only [parts, List.map_cons]
    rw [parts_eq h.2, cQ, if_pos (Int.le_refl _), h.2.yJ (Int.le_refl _), Int.add_zero]
    congr 1
    apply List.map_congr_left
    intro k hk
    have := (h.2.above k hk).1
    rw [cQ, if_pos (by omega)]; omega

theorem WB {j : aB} {r : List aB} (h : tG (-2) (j :: r)) : val (j :: r) (-1) = if j.At = -1 then j.Net else 0 := by
  have := h.1.1
  by_cases e : j.At = -1
  · rw [if_pos e, cQ, if_pos (by omega), h.2.yJ (by omega)]; omega
  · rw [if_neg e, zI]
    intro k hk
    rcases List.mem_cons.1 hk with rfl | hk
    · omega
    · have := (h.2.above k hk).1; omega

theorem JH {f : List aB} (hf : iJ f = true) (m : Int) (hm : -1125899906842624 ≤ m ∧ m ≤ 1125899906842624) : rU 0 m f (f.length : Nat) 0 = some ((f.map fun j => val f j.At).foldl mn m) := by
  obtain ⟨hl, hr⟩ := nX.1 hf
  unfold rU
  rw [mK (l := f) (body := fun s : Int × Int × Int => lQ f (f.length : Nat) s.1 s.2.1 s.2.2) (fun (s : Int × Int) i => (s.1, s.2, i)) (fun s r => (parts s.1 r).foldl mn s.2)
    (fun s r => (∀ j ∈ r, j.Net ≤ 1048576 ∧ -1048576 ≤ j.Net) ∧ r.length ≤ 1024 ∧ s.1 ≤ 1048576 * (1024 - r.length) ∧ -(1048576 * (1024 - r.length)) ≤ s.1) (0, m) ?_ ?_ ?_]
  · simp only [Option.bind_some, rR, parts_eq hr, Int.zero_add]
  · rintro i a r ⟨v, m⟩ ha ⟨h1, h2, h3, h4⟩
    obtain ⟨d1, d2, d3, d4⟩ := idx ha (by omega)
    have hj := h1 a (List.mem_cons_self ..)
    simp only [List.length_cons] at h2 h3 h4
    have hw : IntKind.i64.wrap (v + a.Net) = v + a.Net := fC (by omega) (by omega)
    left
    refine ⟨(v + a.Net, mn m (v + a.Net)), ?_, ⟨fun j hj => h1 j (List.mem_cons_of_mem _ hj), by omega, by simp only; omega, by simp only; omega⟩, rfl⟩
    show lQ f (f.length : Nat) v m i = _
    simp only [lQ, d1, cond_true, aV d2, d3, d4, hw, mn]
  · rintro ⟨v, m⟩ _
    show lQ f (f.length : Nat) v m (f.length : Nat) = _
    simp only [lQ, dP, cond_false, parts, List.foldl_nil]
  · exact ⟨AT hf, hl, by simp only; omega, by simp only; omega⟩

theorem YL (f : List aB) : tU f = some (if iJ f then sV f else 0) := by
  unfold tU
  rw [JI]
  cases h : iJ f
  · simp
  · cases f with
    | nil => simp [sV, val]
    | cons j r =>
      obtain ⟨hl, hr⟩ := nX.1 h
      have hne : decide (((List.length (j :: r) : Nat) : Int) = 0) = false := by simp; omega
      simp only [Option.bind_some, Bool.not_true, Bool.false_or, hne, cond_false, aV aBJ, aBn, if_true]
      have hj := hr.1
      unfold sV
      rw [WB hr]
      by_cases e : j.At = -1
      · simp only [e, decide_true, cond_true, if_true, oU]
        exact JH h j.Net (by omega)
      · simp only [e, decide_false, cond_false, if_false, oU]
        exact JH h 0 (by omega)

theorem RW (f : List aB) : rO f = some (if iJ f then sV f else 0) := by
  unfold rO
  rw [GV]
  cases h : iJ f
  · simp
  · obtain ⟨hl, hr⟩ := nX.1 h
    simp only [Option.bind_some, Bool.not_true, cond_false, GX h, if_true, tY]
    rw [mK (l := f) (body := fun s : Int × Int => kY f s.1 s.2) (fun m i => (m, i)) (fun m r => (r.map fun j => val f j.At).foldl mn m) (fun _ _ => True) (val f (-1)) ?_ ?_ trivial]
    · simp [qM, sV]
    · rintro i a r m ha _
      obtain ⟨d1, d2, d3, d4⟩ := idx ha (by omega)
      left
      refine ⟨mn m (val f a.At), ?_, trivial, rfl⟩
      show kY f m i = _
      simp only [kY, qG, d1, cond_true, aV d2, d3, d4, GX h, Option.bind_some, mn]
      by_cases e : val f a.At < m <;> simp [e]
    · intro m _
      show kY f m (f.length : Nat) = _
      simp only [kY, dP, cond_false, List.map_nil, List.foldl_nil]

theorem zC {s t : Int} (hst : s ≤ t) : ∀ {f : List aB}, (∀ j ∈ f, ¬ (s < j.At ∧ j.At ≤ t)) → val f s = val f t
  | [], _ => rfl
  | j :: r, h => by
    have hj := h j (List.mem_cons_self ..)
    rw [cQ, cQ, zC hst (fun k hk => h k (List.mem_cons_of_mem _ hk))]
    by_cases e : j.At ≤ s
    · rw [if_pos e, if_pos (by omega)]
    · rw [if_neg e, if_neg (by omega)]

theorem EJ {f : List aB} (h : iJ f = true) : ∀ j ∈ f, -2 < j.At ∧ j.At < 1125899906842624 := fun j hj => by have := (nX.1 h).2.above j hj; omega

theorem aAC : iJ [] = true := by decide

end Go.Abs
namespace Go.Abs
open Go
theorem w1 : IntKind.i64.wrap (0 + 1) = 1 := by rw [fC] <;> omega

theorem w2 : IntKind.i64.wrap (1 + 1) = 2 := by rw [fC] <;> omega

theorem w3 : IntKind.i64.wrap (1 - 1) = 0 := by rw [fC] <;> omega

theorem v0 : IntKind.i64.wrap 0 = 0 := by rw [fC] <;> omega

theorem v1 : IntKind.i64.wrap 1 = 1 := by rw [fC] <;> omega

theorem v2 : IntKind.i64.wrap 2 = 2 := by rw [fC] <;> omega

theorem v3 : IntKind.i64.wrap (-1) = -1 := by rw [fC] <;> omega

end Go.Abs
namespace Go.Abs
open Go
theorem QK (f : List aB) : (told f).1.length ≤ 1024 := by
  unfold told
  cases h : iJ f
  · simp
  · simpa using (nX.1 h).1

end Go.Abs
namespace Go.Abs
theorem YW : @dF = @mP aB _ := rfl

theorem XC : @dN = @dQ aB _ := rfl

theorem TS (cmp) : ∀ k, @fX cmp k = @dV aB _ cmp k
  | 0 => rfl
  | k + 1 => by
    show dN cmp _ = dQ cmp _
    rw [TS cmp k, XC]

theorem ZQ : @eA = @nR aB _ := by
  funext d a m b cmp
  unfold eA nR
  simp only [TS]

theorem SF : @eS = @wN aB _ := by
  funext d n cmp
  unfold eS wN gV yM
  unfold gX lF eH yS
  unfold gY yR gZ iY
  unfold gU uS gW lH
  unfold eJ vB
  rw [ZQ, YW]
  rfl

end Go.Abs
namespace Go.Abs
open Go
variable {α : Type} [Inhabited α]
noncomputable def nZ (f1 : α → Option Bool) (s0 : (List α)) (t7 : Int) (t8 : Int) : Option ((Int) ⊕ (Unit ⊕ Int)) :=
  cond (decide (t8 < t7))
  (bB (0 ≤ t8 ∧ t8 < ((List.length s0 : Nat) : Int)) <|
  (f1 (List.getD s0 (Int.toNat t8) default)).bind fun x2 =>
  cond x2
  (some (.inr (.inr t8)))
  (some (.inl (IntKind.i64.wrap (t8 + (1 : Int))))))
  (some (.inr (.inl ())))

theorem DM {l : List α} {f : α → Option Bool} {g : α → Bool} (hl : l.length ≤ 1099511627776) (hf : ∀ x ∈ l, f x = some (g x)) : ∀ (r : List α) (k : Nat), l.drop k = r → k ≤ l.length →
    ∃ x, lp (fun s => nZ f l (l.length : Nat) s) (k : Int) = some x ∧ ((x = .inl () ∧ r.any g = false) ∨ (∃ i : Nat, x = .inr (i : Int) ∧ k ≤ i ∧ i < l.length ∧ r.any g = true ∧ g (l.getD i default) = true ∧ ∀ j, k ≤ j → j < i → g (l.getD j default) = false))
  | [], k, hd, hk => by
    have : k = l.length := by
      have := congrArg List.length hd
      simp only [List.length_drop, List.length_nil] at this; omega
    subst this
    refine ⟨.inl (), cI ?_, Or.inl ⟨rfl, rfl⟩⟩
    show nZ f l _ _ = _
    simp only [nZ, dP, cond_false]
  | a :: r, k, hd, hk => by
    obtain ⟨h1, h2⟩ := drop_cons hd
    have hlt : k < l.length := (List.getElem?_eq_some_iff.1 h1).1
    obtain ⟨d1, d2, d3, d4⟩ := idx h1 (by omega)
    have hga : l.getD k default = a := by rw [Int.toNat_natCast] at d3; exact d3
    have hb : (fun s => nZ f l (l.length : Nat) s) (k : Int) = some (if g a then .inr (.inr (k : Int)) else .inl ((k + 1 : Nat) : Int)) := by
      show nZ f l _ _ = _
      simp only [nZ, d1, cond_true, aV d2, d3, d4, hf a (List.mem_of_getElem? h1), Option.bind_some]
      cases g a <;> simp
    cases hg : g a
    · rw [hg] at hb
      obtain ⟨x, e, hx⟩ := DM hl hf r (k + 1) h2 (by omega)
      refine ⟨x, by rw [eD hb]; exact e, ?_⟩
      rcases hx with ⟨rfl, h⟩ | ⟨i, rfl, h3, h4, h5, h6, h7⟩
      · exact Or.inl ⟨rfl, by simp [hg, h]⟩
      · refine Or.inr ⟨i, rfl, by omega, h4, by simp [h5], h6, fun j hj hj' => ?_⟩
        by_cases e : j = k
        · subst e; rw [hga, hg]
        · exact h7 j (by omega) hj'
    · rw [hg] at hb
      exact ⟨.inr (k : Int), cI hb, Or.inr ⟨k, rfl, Nat.le_refl _, hlt, by simp [hg], by rw [hga, hg], fun j h h' => by omega⟩⟩

end Go.Abs
namespace Go.Abs
open Go
theorem GO {l : List aB} {f : aB → Option Bool} {g : aB → Bool} (hl : l.length ≤ 1099511627776) (hf : ∀ x ∈ l, f x = some (g x)) : cM l f = some (l.any g) := by
  unfold cM fF eY
  obtain ⟨x, e, hx⟩ := DM hl hf l 0 rfl (Nat.zero_le _)
  have e' : lp (fun s => eZ f l (l.length : Nat) s) 0 = some x := e
  rw [e']
  rcases hx with ⟨rfl, h⟩ | ⟨i, rfl, _, _, h, _⟩
  · simp [dG, h]
  · simp [h]

def sS (j : aB) : Bool := !zW j.Net

def zU (j : aB) : Bool := decide (j.At < -1) || decide (1125899906842624 < j.At)

def vK (l : List aB) : List aB := nK 0 ((LF [] (l.filter fun j => decide (j.At < 1125899906842624))).map fun p => (p, val l p))

def gL (l : List aB) : List aB × Int := if l.any sS then ([], 2) else if l.any zU then ([], 13) else told (vK l)

def zT (p n : Int) : List aB := if n ≠ 0 ∧ p < 1125899906842624 then [⟨p, n⟩] else []

def uO (p n : Int) : List aB → List aB
  | [] => zT p n
  | j :: r => if j.At = p then uO p (n + j.Net) r else zT p n ++ uO j.At j.Net r

def grp : List aB → List aB
  | [] => []
  | j :: r => uO j.At j.Net r

abbrev RI (a b : aB) : Prop := a.At ≤ b.At

theorem IK {t : Int} (ht : t < 1125899906842624) : ∀ {r : List aB} {p n : Int}, val (uO p n r) t = (if p ≤ t then n else 0) + val r t
  | [], p, n => by
    unfold uO zT
    split
    · rw [cQ, sD]
    · rw [sD]; split <;> omega
  | j :: r, p, n => by
    unfold uO
    split
    · rename_i h
      rw [IK ht, cQ, h]; split <;> omega
    · rw [DR, IK ht, cQ]
      have : val (zT p n) t = if p ≤ t then n else 0 := by
        unfold zT
        split
        · rw [cQ, sD]; simp
        · rw [sD]; split <;> omega
      rw [this]

theorem aAG {t : Int} (ht : t < 1125899906842624) : ∀ {r : List aB}, val (grp r) t = val r t
  | [] => rfl
  | j :: r => by unfold grp; rw [IK ht, cQ]

theorem LG : ∀ {r : List aB} {p n last : Int}, last < p → (∀ j ∈ r, p ≤ j.At) → Srt RI r → Up last (uO p n r)
  | [], p, n, last, h, _, _ => by
    unfold uO zT
    split
    · rename_i h'; exact ⟨⟨h, h'.2, h'.1⟩, trivial⟩
    · trivial
  | j :: r, p, n, last, h, hp, hs => by
    have hj := hp j (by simp)
    have hs' := List.pairwise_cons.1 hs
    unfold uO
    split
    · exact LG h (fun k hk => hp k (by simp [hk])) hs'.2
    · have ih : Up p (uO j.At j.Net r) := LG (by omega) (fun k hk => hs'.1 k hk) hs'.2
      unfold zT
      split
      · rename_i h'; exact ⟨⟨h, h'.2, h'.1⟩, ih⟩
      · exact ih.weaken (by omega)

theorem aA2 {r : List aB} (h : ∀ j ∈ r, -2 < j.At) (hs : Srt RI r) : Up (-2) (grp r) := by
  cases r with
  | nil => trivial
  | cons j r =>
    have hs' := List.pairwise_cons.1 hs
    exact LG (h j (by simp)) (fun k hk => hs'.1 k hk) hs'.2

theorem OC {l out : List aB} (hl : l.length ≤ 1099511627776) (hb : ∀ j ∈ l, j.Net ≤ 1048576 ∧ -1048576 ≤ j.Net) : ∀ (r : List aB) (k : Nat) (p n : Int), l.drop k = r → k ≤ l.length → n ≤ 1048576 * k → -(1048576 * k) ≤ n →
    ∃ n' k', k ≤ k' ∧ k' ≤ l.length ∧ uO p n r = zT p n' ++ grp (l.drop k') ∧ lp (fun s : List aB × List aB × Int × aB => iV s.1 s.2.1 s.2.2.1 s.2.2.2) (l, out, (k : Int), ⟨p, n⟩) = some (l, out, ((k' : Nat) : Int), ⟨p, n'⟩) ∧ (∀ j r', r = j :: r' → j.At = p → k < k')
  | [], k, p, n, hd, hk, _, _ => by
    have : k = l.length := by
      have := congrArg List.length hd
      simp only [List.length_drop, List.length_nil] at this; omega
    subst this
    refine ⟨n, l.length, Nat.le_refl _, Nat.le_refl _, by simp [uO, grp], cI ?_, fun j r' h => by cases h⟩
    show iV _ _ _ _ = _
    simp only [iV, dP, Bool.false_and, cond_false]
    exact aV (fun h => by cases h)
  | a :: r, k, p, n, hd, hk, h1, h2 => by
    obtain ⟨e1, e2⟩ := drop_cons hd
    have hlt : k < l.length := (List.getElem?_eq_some_iff.1 e1).1
    obtain ⟨d1, d2, d3, d4⟩ := idx e1 (by omega)
    have ha := hb a (List.mem_of_getElem? e1)
    by_cases h : a.At = p
    · have hw : IntKind.i64.wrap (n + a.Net) = n + a.Net := fC (by omega) (by omega)
      obtain ⟨n', k', k1, k2, k3, k4, _⟩ := OC hl hb r (k + 1) p (n + a.Net) e2 (by omega) (by omega) (by omega) (out := out)
      refine ⟨n', k', by omega, k2, by simp [uO, h, k3], ?_, fun _ _ _ _ => by omega⟩
      have hb : (fun s : List aB × List aB × Int × aB => iV s.1 s.2.1 s.2.2.1 s.2.2.2) (l, out, (k : Int), ⟨p, n⟩) = some (.inl (l, out, ((k + 1 : Nat) : Int), ⟨p, n + a.Net⟩)) := by
        show iV _ _ _ _ = _
        simp only [iV, d1, Bool.true_and, d3, d4, h, decide_true, cond_true, hw]
        rw [aV (fun _ => d2), aV d2]
      rw [eD hb, k4]
    · refine ⟨n, k, Nat.le_refl _, hk, ?_, cI ?_, fun j r' he hp => ?_⟩
      · rw [hd]; simp [uO, h, grp]
      · show iV _ _ _ _ = _
        simp only [iV, d1, Bool.true_and, d3, h, decide_false, cond_false]
        exact aV (fun _ => d2)
      · cases he; exact absurd hp h

theorem ZW {l : List aB} (hl : l.length ≤ 1099511627776) (hb : ∀ j ∈ l, j.Net ≤ 1048576 ∧ -1048576 ≤ j.Net) : ∀ (m k : Nat) (out : List aB), l.length - k ≤ m → k ≤ l.length → out.length ≤ k →
    lp (fun s : List aB × List aB × Int => kL s.1 s.2.1 s.2.2) (l, out, (k : Int)) = some (out ++ grp (l.drop k)) := by
  have stop : ∀ out, lp (fun s : List aB × List aB × Int => kL s.1 s.2.1 s.2.2) (l, out, ((l.length : Nat) : Int)) = some (out ++ grp (l.drop l.length)) := by
    intro out
    refine cI ?_
    show kL _ _ _ = _
    simp only [kL, dP, cond_false]
    simp [grp]
  intro m
  induction m with
  | zero =>
    intro k out hm hk _
    have : k = l.length := by omega
    subst this; exact stop out
  | succ m ih =>
    intro k out hm hk ho
    by_cases he : k = l.length
    · subst he; exact stop out
    · have hlt : k < l.length := by omega
      have hd : l.drop k = l[k] :: l.drop (k + 1) := List.drop_eq_getElem_cons hlt
      obtain ⟨d1, d2, d3, d4⟩ := idx (List.getElem?_eq_getElem hlt) (by omega)
      obtain ⟨n', k', k1, k2, k3, k4, k5⟩ := OC hl hb (l.drop k) k l[k].At 0 rfl hk (by omega) (by omega) (out := out)
      have hk' := k5 _ _ hd rfl
      have hbod : (fun s : List aB × List aB × Int => kL s.1 s.2.1 s.2.2) (l, out, (k : Int)) = some (.inl (l, out ++ zT l[k].At n', ((k' : Nat) : Int))) := by
        show kL _ _ _ = _
        simp only [kL, d1, cond_true, aV d2, d3, xG, k4, Option.bind_some, sW]
        unfold zT
        by_cases c : n' ≠ 0 ∧ l[k].At < 1125899906842624
        · have hc : (!decide (n' = 0) && decide (l[k].At < 1125899906842624)) = true := by simp [c]
          rw [hc, cond_true, if_pos c, aV (by simp only [List.length_cons, List.length_nil]; omega)]
        · have hc : (!decide (n' = 0) && decide (l[k].At < 1125899906842624)) = false := by
            rw [Bool.eq_false_iff]; intro h; apply c; simpa using h
          rw [hc, cond_false, if_neg c]; simp
      have hfl : (zT l[k].At n').length ≤ 1 := by unfold zT; split <;> simp
      rw [eD hbod, ih k' _ (by omega) k2 (by simp only [List.length_append]; omega)]
      have hg : grp (l.drop k) = uO l[k].At 0 (l.drop k) := by rw [hd]; simp [grp, uO]
      rw [hg, k3]; simp

theorem aAp (a b : aB) : lS a b = some (if a.At < b.At then -1 else if b.At < a.At then 1 else 0) := by
  unfold lS iS nC
  by_cases h1 : a.At < b.At
  · simp [h1]
  · by_cases h2 : b.At < a.At <;> simp [h1, h2]

theorem aBL : Cmp (fun _ => True) RI (fun y0 y1 => lS y0 y1) where
  ans x y _ _ := ⟨_, aAp x y, by unfold RI; split <;> (try split) <;> omega⟩
  trans x y z _ _ _ h1 h2 := Int.le_trans h1 h2
  total x y _ _ := Int.le_total x.At y.At

theorem aBu {l : List aB} (hl : l.length ≤ 1099511627776) : ∃ r, r.Perm l ∧ Srt RI r ∧ cU l (fun y0 y1 => lS y0 y1) = some r := by
  obtain ⟨r, r1, r2, r3⟩ := MX aBL (d := l) (fun _ _ => trivial) hl
  refine ⟨r, r1, r2, ?_⟩
  unfold cU
  rw [SF, r3]; rfl

theorem PO {f g : List aB} (h : f.Perm g) (t : Int) : val f t = val g t := by
  induction h with
  | nil => rfl
  | cons x _ ih => rw [cQ, cQ, ih]
  | swap x y l => rw [cQ, cQ, cQ, cQ]; omega
  | trans _ _ ih1 ih2 => rw [ih1, ih2]

theorem VM {l : List aB} (h : l.any sS = false) : ∀ j ∈ l, j.Net ≤ 1048576 ∧ -1048576 ≤ j.Net := by
  intro j hj
  have := List.any_eq_false.1 h j hj
  simp [sS, zW] at this
  omega

theorem BE {l : List aB} (h : l.any zU = false) : ∀ j ∈ l, -2 < j.At ∧ j.At ≤ 1125899906842624 := by
  intro j hj
  have := List.any_eq_false.1 h j hj
  simp [zU] at this
  omega

theorem FL {l : List aB} (ht : ∀ j ∈ l, -2 < j.At) : Inc (-2) (LF [] (l.filter fun j => decide (j.At < 1125899906842624))) :=
  RQ (ps := []) (show Inc (-2) [] from trivial) fun j hj => by
    obtain ⟨h1, h2⟩ := List.mem_filter.1 hj
    exact ⟨ht j h1, by simpa using h2⟩

theorem IG {l h : List aB} (ht : ∀ j ∈ l, -2 < j.At) (hh : Up (-2) h) (hv : ∀ t, -2 < t → t < 1125899906842624 → val h t = val l t) : vK l = h := by
  refine ZX (F := val l) (zI fun j hj => ht j hj) (FL ht) ?_ hh hv
  intro s t _ hst h2 hn
  exact zC hst fun j hj hc => hn j.At (IX.2 (Or.inr ⟨j, List.mem_filter.2 ⟨hj, by simp; omega⟩, rfl⟩)) hc

theorem norm_eq {l : List aB} (hl : l.length ≤ 1099511627776) : vA l = some (gL l) := by
  unfold vA gL
  rw [GO (g := sS) hl (fun x _ => by simp [rX, TX, sS])]
  simp only [Option.bind_some]
  cases h1 : l.any sS
  · rw [GO (f := fun y0 => rV y0) (g := zU) hl (fun x _ => rfl)]
    simp only [cond_false, Option.bind_some, Bool.false_eq_true, if_false]
    cases h2 : l.any zU
    · simp only [cond_false, Bool.false_eq_true, if_false]
      have hc : eK l = some l := by unfold eK; exact aV ⟨by omega, by omega⟩
      obtain ⟨r, r1, r2, r3⟩ := aBu hl
      rw [hc]
      simp only [Option.bind_some]
      rw [r3]
      simp only [Option.bind_some, xF]
      have hlr : r.length ≤ 1099511627776 := by rw [r1.length_eq]; exact hl
      have := ZW hlr (fun j hj => VM h1 j (r1.mem_iff.1 hj)) r.length 0 [] (by omega) (by omega) (by simp)
      simp only [Int.natCast_zero, List.drop_zero, List.nil_append] at this
      rw [this]
      simp only [Option.bind_some, tS, YR]
      rw [IG (fun j hj => (BE h2 j hj).1) (aA2 (fun j hj => (BE h2 j (r1.mem_iff.1 hj)).1) r2) (fun t _ ht => by rw [aAG ht, PO r1])]
    · simp
  · simp

end Go.Abs
namespace Go.Abs
open Go
theorem NA (x y : ByteArray) : mQ x y = decide (x = y) := by
  unfold mQ
  rw [ByteArray.toList_eq, ByteArray.toList_eq]
  by_cases h : x = y
  · simp [h]
  · have : x.data.toList ≠ y.data.toList := by
      intro he
      apply h
      cases x; cases y
      congr 1
      exact Array.toList_inj.1 he
    have h2 : (x.data.toList == y.data.toList) = false := by simpa using this
    rw [h2]; simp [h]

theorem veq (a b : aF) : ((decide (a.Kind = b.Kind)) && ((decide (a.Num = b.Num)) && ((mQ a.Text b.Text) && true))) = decide (a = b) := by
  rw [NA]
  obtain ⟨a1, a2, a3⟩ := a
  obtain ⟨b1, b2, b3⟩ := b
  by_cases h1 : a1 = b1 <;> by_cases h2 : a2 = b2 <;> by_cases h3 : a3 = b3 <;> simp [h1, h2, h3]

def CM (v : aF) : Bool := decide (v.Kind = 1) && mQ v.Text (⟨#[]⟩ : ByteArray)

def CD (v : aF) : Bool := ((decide (v.Kind = 2)) && (decide (v.Num = 0))) && (decide (((ByteArray.size v.Text : Nat) : Int) ≤ 64))

def rB (v : aF) : Bool := CM v || CD v

def gK (r : List aF) : Bool := decide (r.length ≤ 8) && r.all rB

theorem of_eq (v : aF) : kO v = some (if CM v then (.k_number v.Num, true) else if CD v then (.k_words v.Text, true) else (.none_, false)) := by
  unfold kO CM CD
  cases (decide (v.Kind = 1) && mQ v.Text (⟨#[]⟩ : ByteArray)) <;> cases (((decide (v.Kind = 2)) && (decide (v.Num = 0))) && (decide (((ByteArray.size v.Text : Nat) : Int) ≤ 64))) <;> rfl

theorem aAn (v : aF) : uV v = some (rB v) := by
  unfold uV rB
  rw [of_eq]
  cases CM v <;> cases CD v <;> rfl

theorem JM (v : aF) : pT v = some (rB v) := by
  unfold pT rB CM CD
  by_cases h : v.Kind = 1
  · simp [h]
  · simp [h]

theorem QX {l : List aF} {f : aF → Option Bool} {g : aF → Bool} (hl : l.length ≤ 1099511627776) (hf : ∀ x ∈ l, f x = some (g x)) : cY l f = some (l.any g) := by
  unfold cY fG eV
  obtain ⟨x, e, hx⟩ := DM hl hf l 0 rfl (Nat.zero_le _)
  have e' : lp (fun s => eU f l (l.length : Nat) s) 0 = some x := e
  rw [e']
  rcases hx with ⟨rfl, h⟩ | ⟨i, rfl, _, _, h, _⟩
  · simp [dH, h]
  · simp [h]

theorem HE (r : List aF) : qS r = some (gK r) := by
  unfold qS gK
  by_cases h : r.length ≤ 8
  · have h1 : decide ((8 : Int) < ((r.length : Nat) : Int)) = false := by simp; omega
    rw [h1, cond_false, QX (g := fun v => !rB v) (by omega) (fun x _ => by simp [vD, aAn])]
    simp only [Option.bind_some, h, decide_true, Bool.true_and]
    congr 1
    rw [List.all_eq_not_any_not]
  · have h1 : decide ((8 : Int) < ((r.length : Nat) : Int)) = true := by simp; omega
    rw [h1, cond_true]
    simp [h]

theorem EN (r : List aF) (hl : r.length ≤ 1099511627776 * 16) : pV r = some (gK r) := by
  unfold pV xR
  have hl9 : (r.take 9).length ≤ 9 := by simp; omega
  rw [JY (l := r.take 9) (fun i => i) (fun v => !rB v) (.inr false) (.inl ()) ?_ ?_]
  · unfold gK
    by_cases h : r.length ≤ 8
    · have ht : r.take 9 = r := List.take_of_length_le (by omega)
      rw [ht, List.all_eq_not_any_not]
      cases h1 : (r.any fun v => !rB v)
      · have : ((r.length : Nat) : Int) ≤ 8 := by omega
        simp [qK, this, h]
      · simp
    · cases h1 : ((r.take 9).any fun v => !rB v)
      · have : ¬ ((r.length : Nat) : Int) ≤ 8 := by omega
        simp [qK, this, h]
      · simp [h]
  · intro i a ha
    have hi : i < (r.take 9).length := (List.getElem?_eq_some_iff.1 ha).1
    have hi2 : i < r.length := by simp at hi; omega
    have ha2 : r[i]? = some a := by
      rw [List.getElem?_take] at ha
      split at ha
      · exact ha
      · cases ha
    obtain ⟨d1, d2, d3, d4⟩ := idx ha2 (by omega)
    have h9 : decide ((i : Int) < 9) = true := by simp; omega
    show oK r i = _
    simp only [oK, d1, h9, Bool.and_self, cond_true, aV d2, d3, d4, JM, Option.bind_some]
    cases rB a <;> simp
  · show oK r _ = _
    have : ((decide ((((r.take 9).length : Nat) : Int) < ((r.length : Nat) : Int))) && (decide ((((r.take 9).length : Nat) : Int) < 9))) = false := by
      rw [Bool.and_eq_false_iff]
      by_cases h : r.length ≤ 8
      · left; simp; omega
      · right; simp; omega
    simp only [oK, this, cond_false]

theorem NW {α : Type} [DecidableEq α] {f g : List α} {body : Int → Option (Int ⊕ (Unit ⊕ Bool))} (he : f.length = g.length)
    (hb : ∀ (i : Nat) a b, f[i]? = some a → g[i]? = some b → body i = some (if a = b then .inl ((i + 1 : Nat) : Int) else .inr (.inr false)))
    (hend : body (f.length : Nat) = some (.inr (.inl ()))) : ∀ (m k : Nat), f.length - k = m → k ≤ f.length → lp body (k : Int) = some (if f.drop k = g.drop k then .inl () else .inr false)
  | 0, k, hm, hk => by
    have : k = f.length := by omega
    subst this
    rw [List.drop_length, he, List.drop_length, if_pos rfl]
    rw [← he]
    exact cI hend
  | m + 1, k, hm, hk => by
    have h1 : k < f.length := by omega
    have h2 : k < g.length := by omega
    have hbk := hb k _ _ (List.getElem?_eq_getElem h1) (List.getElem?_eq_getElem h2)
    have e1 : f.drop k = f[k] :: f.drop (k + 1) := List.drop_eq_getElem_cons h1
    have e2 : g.drop k = g[k] :: g.drop (k + 1) := List.drop_eq_getElem_cons h2
    have hiff : (f.drop k = g.drop k) ↔ (f[k] = g[k] ∧ f.drop (k + 1) = g.drop (k + 1)) := by rw [e1, e2, List.cons.injEq]
    by_cases h : f[k] = g[k]
    · rw [if_pos h] at hbk
      rw [eD hbk, NW he hb hend m (k + 1) (by omega) (by omega)]
      simp only [hiff, h, true_and]
    · rw [if_neg h] at hbk
      rw [cI hbk]
      simp only [hiff, h, false_and, if_false]

theorem PN {α : Type} {f g : List α} (h : f.length ≠ g.length) : (!decide (((f.length : Nat) : Int) = ((g.length : Nat) : Int))) = true := by simp; omega

theorem QI {α : Type} {f g : List α} (h : f.length = g.length) : (!decide (((f.length : Nat) : Int) = ((g.length : Nat) : Int))) = false := by simp [h]

theorem VU (a b : List aF) (hl : a.length ≤ 17592186044416) : xJ a b = some (decide (a = b)) := by
  unfold xJ iB
  by_cases he : a.length = b.length
  · rw [QI he, cond_false]
    unfold gM
    have := NW (f := a) (g := b) (body := fun s => dB a b (a.length : Nat) s) he ?_ ?_ a.length 0 rfl (Nat.zero_le _)
    · simp only [Int.natCast_zero, List.drop_zero] at this
      rw [this]
      by_cases h : a = b <;> simp [h, eB]
    · intro i x y hx hy
      obtain ⟨d1, d2, d3, d4⟩ := idx hx (by omega)
      obtain ⟨_, e2, e3, _⟩ := idx hy (by omega)
      simp only [dB, d1, cond_true, aV d2, aV e2, d3, e3, d4, veq]
      by_cases h : x = y <;> simp [h]
    · simp only [dB, dP, cond_false]
  · rw [PN he, cond_true]
    have : a ≠ b := fun h => he (by rw [h])
    simp [this]

theorem zN (a b : List aF) (hl : a.length ≤ 17592186044416) : oJ a b = some (decide (a = b)) := by
  unfold oJ
  by_cases he : a.length = b.length
  · rw [QI he, cond_false]
    unfold vX
    have := NW (f := a) (g := b) (body := fun s => pI a b s) he ?_ ?_ a.length 0 rfl (Nat.zero_le _)
    · simp only [Int.natCast_zero, List.drop_zero] at this
      rw [this]
      by_cases h : a = b <;> simp [h, rN]
    · intro i x y hx hy
      obtain ⟨d1, d2, d3, d4⟩ := idx hx (by omega)
      obtain ⟨_, e2, e3, _⟩ := idx hy (by omega)
      simp only [pI, d1, cond_true, aV d2, aV e2, d3, e3, d4, veq]
      by_cases h : x = y <;> simp [h]
    · simp only [pI, dP, cond_false]
  · rw [PN he, cond_true]
    have : a ≠ b := fun h => he (by rw [h])
    simp [this]

structure GF {α : Type} (c : α → α → Int) : Prop where
  eq : ∀ a b, c a b = 0 ↔ a = b
  anti : ∀ a b, c a b < 0 ↔ 0 < c b a
  trans : ∀ a b d, c a b < 0 → c b d < 0 → c a d < 0

def mC (x y : Int) : Int := if x < y then -1 else if y < x then 1 else 0

theorem AY : GF mC where
  eq a b := by unfold mC; (repeat' split) <;> omega
  anti a b := by unfold mC; (repeat' split) <;> omega
  trans a b d := by unfold mC; (repeat' split) <;> omega

def fB {α : Type} [DecidableEq α] (c : α → α → Int) : List α → List α → Int
  | [], [] => 0
  | [], _ :: _ => -1
  | _ :: _, [] => 1
  | a :: r, b :: s => if a = b then fB c r s else c a b

theorem GF.list {α : Type} [DecidableEq α] {c : α → α → Int} (h : GF c) : GF (fB c) where
  eq := by
    intro a
    induction a with
    | nil => intro b; cases b <;> simp [fB]
    | cons x r ih =>
      intro b
      cases b with
      | nil => simp [fB]
      | cons y s =>
        unfold fB
        split
        · rename_i e; subst e; rw [ih]; simp
        · rename_i e
          have := h.eq x y
          constructor
          · intro h0; exact absurd (this.1 h0) e
          · intro h0; cases h0; exact absurd rfl e
  anti := by
    intro a
    induction a with
    | nil => intro b; cases b <;> simp [fB]
    | cons x r ih =>
      intro b
      cases b with
      | nil => simp [fB]
      | cons y s =>
        unfold fB
        by_cases e : x = y
        · subst e; simp only [if_true]; exact ih s
        · rw [if_neg e, if_neg (fun e' => e e'.symm)]; exact h.anti x y
  trans := by
    intro a
    induction a with
    | nil =>
      intro b d
      cases b <;> cases d <;> simp [fB]
    | cons x r ih =>
      intro b d
      cases b with
      | nil => simp [fB]
      | cons y s =>
        cases d with
        | nil => simp [fB]
        | cons z t =>
          unfold fB
          by_cases e1 : x = y
          · subst e1
            rw [if_pos rfl]
            by_cases e2 : x = z
            · subst e2; rw [if_pos rfl, if_pos rfl]; exact ih s t
            · rw [if_neg e2, if_neg e2]; exact fun _ h => h
          · rw [if_neg e1]
            by_cases e2 : y = z
            · have hz : ¬ x = z := fun e => e1 (e.trans e2.symm)
              intro h _
              rw [if_neg hz, ← e2]; exact h
            · rw [if_neg e2]
              intro h1 h2
              by_cases e3 : x = z
              · subst e3
                have h3 := (h.anti x y).1 h1
                omega
              · rw [if_neg e3]; exact h.trans x y z h1 h2

def zM (a b : UInt8) : Int := if a < b then -1 else if b < a then 1 else 0

theorem IC : GF zM where
  eq a b := by
    unfold zM
    constructor
    · intro h
      split at h
      · cases h
      · split at h
        · cases h
        · rename_i h1 h2
          rw [UInt8.lt_iff_toNat_lt] at h1 h2
          exact UInt8.toNat_inj.1 (by omega)
    · rintro rfl
      have : ¬ a < a := by rw [UInt8.lt_iff_toNat_lt]; omega
      simp [this]
  anti a b := by
    unfold zM
    simp only [UInt8.lt_iff_toNat_lt]
    (repeat' split) <;> omega
  trans a b d := by
    unfold zM
    simp only [UInt8.lt_iff_toNat_lt]
    (repeat' split) <;> omega

theorem BT : ∀ (a b : List UInt8), Go.Lib.compareBytes a b = fB zM a b
  | [], [] => rfl
  | [], _ :: _ => rfl
  | _ :: _, [] => rfl
  | a :: r, b :: s => by
    unfold Go.Lib.compareBytes fB
    rw [BT r s]
    by_cases e : a = b
    · subst e
      have : ¬ a < a := by rw [UInt8.lt_iff_toNat_lt]; omega
      simp [this]
    · rw [if_neg e]
      unfold zM
      have : ¬ (¬ a < b ∧ ¬ b < a) := by
        rintro ⟨h1, h2⟩
        rw [UInt8.lt_iff_toNat_lt] at h1 h2
        exact e (UInt8.toNat_inj.1 (by omega))
      by_cases h1 : a < b
      · simp [h1]
      · have h2 : b < a := Classical.byContradiction fun h2 => this ⟨h1, h2⟩
        simp [h1, h2]

def LP (a b : ByteArray) : Int := fB zM a.data.toList b.data.toList

theorem aAB (a b : ByteArray) : LH a b = LP a b := BT _ _

theorem data_inj {x y : ByteArray} (h : x.data.toList = y.data.toList) : x = y := by
  cases x; cases y
  congr 1
  exact Array.toList_inj.1 h

theorem ED : GF LP where
  eq a b := by unfold LP; rw [(IC.list).eq]; exact ⟨data_inj, fun h => by rw [h]⟩
  anti a b := (IC.list).anti _ _
  trans a b d := (IC.list).trans _ _ _

def wG (a b : aF) : Int := if a.Kind = b.Kind then (if a.Num = b.Num then LP a.Text b.Text else mC a.Num b.Num) else mC a.Kind b.Kind

theorem DO : GF wG where
  eq a b := by
    obtain ⟨a1, a2, a3⟩ := a
    obtain ⟨b1, b2, b3⟩ := b
    unfold wG
    simp only [aF.mk.injEq]
    by_cases h1 : a1 = b1
    · by_cases h2 : a2 = b2
      · simp [h1, h2, ED.eq]
      · simp [h1, h2, AY.eq]
    · simp [h1, AY.eq]
  anti a b := by
    unfold wG
    by_cases h1 : a.Kind = b.Kind
    · rw [if_pos h1, if_pos h1.symm]
      by_cases h2 : a.Num = b.Num
      · rw [if_pos h2, if_pos h2.symm]; exact ED.anti _ _
      · rw [if_neg h2, if_neg (fun h => h2 h.symm)]; exact AY.anti _ _
    · rw [if_neg h1, if_neg (fun h => h1 h.symm)]; exact AY.anti _ _
  trans a b d := by
    unfold wG
    intro h1 h2
    have lt : ∀ {x y : Int}, mC x y < 0 → x < y := fun {x y} h => by unfold mC at h; split at h <;> (try split at h) <;> omega
    have mk : ∀ {x y : Int}, x < y → mC x y < 0 := fun {x y} h => by unfold mC; rw [if_pos h]; omega
    by_cases e1 : a.Kind = b.Kind
    · rw [if_pos e1] at h1
      by_cases e2 : b.Kind = d.Kind
      · rw [if_pos e2] at h2
        rw [if_pos (e1.trans e2)]
        by_cases f1 : a.Num = b.Num
        · rw [if_pos f1] at h1
          by_cases f2 : b.Num = d.Num
          · rw [if_pos f2] at h2
            rw [if_pos (f1.trans f2)]
            exact ED.trans _ _ _ h1 h2
          · rw [if_neg f2] at h2
            rw [f1, if_neg f2]; exact h2
        · rw [if_neg f1] at h1
          have g1 := lt h1
          by_cases f2 : b.Num = d.Num
          · rw [← f2, if_neg f1]; exact h1
          · rw [if_neg f2] at h2
            have g2 := lt h2
            rw [if_neg (by omega)]
            exact mk (by omega)
      · rw [if_neg e2] at h2
        rw [e1, if_neg e2]; exact h2
    · rw [if_neg e1] at h1
      have g1 := lt h1
      by_cases e2 : b.Kind = d.Kind
      · rw [← e2, if_neg e1]; exact h1
      · rw [if_neg e2] at h2
        have g2 := lt h2
        rw [if_neg (by omega)]
        exact mk (by omega)

def dS (a b : List aF) : Int := fB wG a b

theorem kA : GF dS := DO.list

end Go.Abs
namespace Go.Abs
open Go
theorem LR (x y : Int) : iS x y = some (mC x y) := by
  unfold iS nC mC
  by_cases h1 : x < y
  · simp [h1]
  · by_cases h2 : y < x <;> simp [h1, h2]

theorem YI (x y : Int) : dU x y = some (mC x y) := by
  unfold dU iW mC
  by_cases h1 : x < y
  · simp [h1]
  · by_cases h2 : y < x <;> simp [h1, h2]

theorem AR {v : aF} (h : CM v = true) : v.Kind = 1 ∧ v.Text = (⟨#[]⟩ : ByteArray) := by
  simp only [CM, NA, Bool.and_eq_true, decide_eq_true_eq] at h; exact h

theorem yH {v : aF} (h : CD v = true) : v.Kind = 2 ∧ v.Num = 0 ∧ v.Text.size ≤ 64 := by
  simp only [CD, Bool.and_eq_true, decide_eq_true_eq] at h; exact ⟨h.1.1, h.1.2, by omega⟩

theorem HD {v : aF} (h : rB v = true) : CM v = true ∨ (CM v = false ∧ CD v = true) := by
  unfold rB at h
  cases hn : CM v
  · rw [hn] at h; exact .inr ⟨rfl, by simpa using h⟩
  · exact .inl rfl

theorem VZ (a : ByteArray) : LP a a = 0 := (ED.eq a a).2 rfl

theorem CC (a : Int) : mC a a = 0 := (AY.eq a a).2 rfl

theorem YF {a b : aF} (ha : rB a = true) (hb : rB b = true) : pK a b = some (wG a b) := by
  unfold pK
  simp only [of_eq, Option.bind_some]
  rcases HD ha with h1 | ⟨h1, h1'⟩ <;> rcases HD hb with h2 | ⟨h2, h2'⟩
  · obtain ⟨k1, t1⟩ := AR h1
    obtain ⟨k2, t2⟩ := AR h2
    simp only [h1, h2, if_true, Bool.not_true, Bool.or_self, cond_false, YI, Option.bind_some]
    unfold wG
    rw [k1, k2, t1, t2, if_pos rfl, VZ]
    by_cases hn : a.Num = b.Num
    · rw [if_pos hn, hn, CC]
    · rw [if_neg hn]
  · obtain ⟨k1, t1⟩ := AR h1
    obtain ⟨k2, n2, _⟩ := yH h2'
    simp only [h1, h2, h2', if_true, Bool.false_eq_true, if_false, Bool.not_true, Bool.or_self, cond_false]
    unfold wG
    rw [k1, k2]; rfl
  · obtain ⟨k1, n1, _⟩ := yH h1'
    obtain ⟨k2, t2⟩ := AR h2
    simp only [h1, h1', h2, if_true, Bool.false_eq_true, if_false, Bool.not_true, Bool.or_self, cond_false]
    unfold wG
    rw [k1, k2]; rfl
  · obtain ⟨k1, n1, _⟩ := yH h1'
    obtain ⟨k2, n2, _⟩ := yH h2'
    simp only [h1, h1', h2, h2', if_true, Bool.false_eq_true, if_false, Bool.not_true, Bool.or_self, cond_false]
    unfold wG lO gQ
    rw [k1, k2, n1, n2, if_pos rfl, if_pos rfl]
    simp [aAB]

theorem wP {r : List aF} (h : gK r = true) : r.length ≤ 8 ∧ ∀ v ∈ r, rB v = true := by
  simp only [gK, Bool.and_eq_true, decide_eq_true_eq, List.all_eq_true] at h; exact h

theorem QO {a b : List aF} {k : Nat} (hk : k = a.length ∨ k = b.length) (h1 : k ≤ a.length) (h2 : k ≤ b.length) : dS (a.drop k) (b.drop k) = mC a.length b.length := by
  rcases hk with rfl | rfl
  · rw [List.drop_length]
    by_cases h : a.length = b.length
    · rw [h, List.drop_length, CC]; rfl
    · rw [List.drop_eq_getElem_cons (by omega)]
      show (-1 : Int) = _
      unfold mC; rw [if_pos (by omega)]
  · rw [List.drop_length]
    by_cases h : a.length = b.length
    · rw [← h, List.drop_length, CC]; rfl
    · rw [List.drop_eq_getElem_cons (by omega)]
      show (1 : Int) = _
      unfold mC; rw [if_neg (by omega), if_pos (by omega)]

theorem TN {a b : List aF} (hl : a.length ≤ 8) (hlb : b.length ≤ 8) (n : Nat) (hn : n = min a.length b.length) : ∀ (m k : Nat), n - k = m → k ≤ n →
    ∃ x, lp (fun s : Int × Int => bU (fun st y0 => (iR y0 st b).bind fun o => some (o.2, o.1)) (a.take n) (n : Nat) s.1 s.2) ((k : Int) - 1, (k : Int)) = some x ∧
      ((∃ sg, x = .inl sg ∧ dS (a.drop k) (b.drop k) = mC a.length b.length) ∨
        (∃ i : Nat, x = .inr ((i : Int), (i : Int)) ∧ i < a.length ∧ i < b.length ∧ dS (a.drop k) (b.drop k) = wG (a.getD i default) (b.getD i default)))
  | 0, k, hm, hk => by
    have : k = n := by omega
    subst this
    refine ⟨.inl ((k : Int) - 1), cI ?_, .inl ⟨_, rfl, QO (by omega) (by omega) (by omega)⟩⟩
    show bU _ _ _ _ _ = _
    simp only [bU, dP, cond_false]
  | m + 1, k, hm, hk => by
    have h1 : k < a.length := by omega
    have h2 : k < b.length := by omega
    have ht : (a.take n)[k]? = some a[k] := by
      rw [List.getElem?_take_of_lt (by omega)]; exact List.getElem?_eq_getElem h1
    obtain ⟨d1, d2, d3, d4⟩ := idx ht (by simp; omega)
    have hlt : (a.take n).length = n := by simp; omega
    rw [hlt] at d1 d2
    obtain ⟨_, e2, e3, _⟩ := idx (List.getElem?_eq_getElem h2) (by omega)
    have hw : IntKind.i64.wrap ((k : Int) - 1 + 1) = (k : Int) := by rw [fC (by omega) (by omega)]; omega
    have hb : (fun s : Int × Int => bU (fun st y0 => (iR y0 st b).bind fun o => some (o.2, o.1)) (a.take n) (n : Nat) s.1 s.2) ((k : Int) - 1, (k : Int)) =
        some (if a[k] = b[k] then .inl ((k : Int), ((k + 1 : Nat) : Int)) else .inr (.inr ((k : Int), (k : Int)))) := by
      show bU _ _ _ _ _ = _
      simp only [bU, d1, cond_true, hlt, aV d2, d3, d4, iR, hw, aV e2, e3, veq, Option.bind_some]
      by_cases h : a[k] = b[k] <;> simp [h]
    have ea : a.drop k = a[k] :: a.drop (k + 1) := List.drop_eq_getElem_cons h1
    have eb : b.drop k = b[k] :: b.drop (k + 1) := List.drop_eq_getElem_cons h2
    by_cases h : a[k] = b[k]
    · rw [if_pos h] at hb
      obtain ⟨x, e, hx⟩ := TN hl hlb n hn m (k + 1) (by omega) (by omega)
      have hc : dS (a.drop k) (b.drop k) = dS (a.drop (k + 1)) (b.drop (k + 1)) := by
        rw [ea, eb]; unfold dS; rw [fB, if_pos h]
      refine ⟨x, ?_, by rw [hc]; exact hx⟩
      rw [eD hb]
      rw [show ((k + 1 : Nat) : Int) - 1 = (k : Int) by omega] at e
      exact e
    · rw [if_neg h] at hb
      refine ⟨_, cI hb, .inr ⟨k, rfl, h1, h2, ?_⟩⟩
      rw [ea, eb]; unfold dS; rw [fB, if_neg h]
      simp [List.getD_eq_getElem?_getD, h1, h2]

theorem LW (a b : List aF) : pG a b = some (if gK a && gK b then dS a b else 0) := by
  unfold pG
  rw [HE]
  simp only [Option.bind_some]
  cases ha : gK a
  · simp [dK]
  · simp only [Bool.not_true, Bool.not_false, dK, cond_true, HE, Option.bind_some, Bool.false_or]
    cases hb : gK b
    · simp
    · obtain ⟨la, ma⟩ := wP ha
      obtain ⟨lb, mb⟩ := wP hb
      have hif : (if ((List.length b : Nat) : Int) < ((List.length a : Nat) : Int) then ((List.length b : Nat) : Int) else ((List.length a : Nat) : Int)) = ((min a.length b.length : Nat) : Int) := by split <;> omega
      have hlt : (a.take (min a.length b.length)).length = min a.length b.length := by rw [List.length_take]; omega
      simp only [Bool.not_true, cond_false, hif, Int.toNat_natCast, sQ, Option.bind_some, eP, eG, hlt, Bool.and_self, if_true]
      rw [aV ⟨by omega, by omega⟩]
      obtain ⟨x, e, hx⟩ := TN (a := a) (b := b) la lb _ rfl _ 0 rfl (Nat.zero_le _)
      have e' : lp (fun s : Int × Int => bU (fun st y0 => (iR y0 st b).bind fun o => some (o.2, o.1)) (a.take (min a.length b.length)) (min a.length b.length : Nat) s.1 s.2) ((-1 : Int), (0 : Int)) = some x := e
      rw [e']
      simp only [List.drop_zero] at hx
      rcases hx with ⟨sg, rfl, h⟩ | ⟨i, rfl, h1, h2, h⟩
      · simp [cX, LR, h]
      · have hi : decide ((i : Int) < 0) = false := by simp
        simp only [Option.bind_some, Sum.elim_inr, hi, cond_false, Int.toNat_natCast]
        rw [aV ⟨by omega, by omega⟩, aV ⟨by omega, by omega⟩]
        have g1 : a.getD i default ∈ a := by simp [List.getD_eq_getElem?_getD, h1]
        have g2 : b.getD i default ∈ b := by simp [List.getD_eq_getElem?_getD, h2]
        rw [YF (ma _ g1) (mb _ g2), h]
        simp only [Option.bind_some]

theorem aAi {s : ByteArray} {i : Nat} (h : i < s.data.toList.length) : bt s (i : Int) = ((s.data.toList[i]).toNat : Int) := by
  have h' : i < s.data.size := by simpa using h
  unfold bt
  simp only [Int.toNat_natCast, Array.getElem_toList]
  rw [Array.getD_eq_getD_getElem?, Array.getElem?_eq_getElem h']
  rfl

theorem QL {a b : aF} (ha : a.Text.size ≤ 64) (hb : b.Text.size ≤ 64) : ∀ (m k : Nat), min a.Text.size b.Text.size - k = m → k ≤ min a.Text.size b.Text.size →
    ∃ x, lp (fun s => fI a b s) (k : Int) = some x ∧
      ((x = .inl () ∧ fB zM (a.Text.data.toList.drop k) (b.Text.data.toList.drop k) = mC a.Text.size b.Text.size) ∨ (∃ v, x = .inr v ∧ fB zM (a.Text.data.toList.drop k) (b.Text.data.toList.drop k) = v))
  | 0, k, hm, hk => by
    have hsa : a.Text.data.toList.length = a.Text.size := by rw [Array.length_toList]; rfl
    have hsb : b.Text.data.toList.length = b.Text.size := by rw [Array.length_toList]; rfl
    refine ⟨.inl (), cI ?_, .inl ⟨rfl, ?_⟩⟩
    · show fI a b _ = _
      have : ((decide ((k : Int) < ((ByteArray.size a.Text : Nat) : Int))) && (decide ((k : Int) < ((ByteArray.size b.Text : Nat) : Int)))) = false := by
        rw [Bool.and_eq_false_iff]
        simp only [decide_eq_false_iff_not]
        omega
      simp only [fI, this, cond_false]
    · by_cases h1 : a.Text.size ≤ k
      · rw [List.drop_eq_nil_of_le (by omega)]
        by_cases h2 : b.Text.size ≤ k
        · rw [List.drop_eq_nil_of_le (by omega)]
          have : a.Text.size = b.Text.size := by omega
          rw [this, CC]; rfl
        · rw [List.drop_eq_getElem_cons (by omega)]
          show (-1 : Int) = _
          unfold mC; rw [if_pos (by omega)]
      · have h2 : b.Text.size ≤ k := by omega
        rw [@List.drop_eq_nil_of_le _ b.Text.data.toList k (by omega), List.drop_eq_getElem_cons (by omega)]
        show (1 : Int) = _
        unfold mC; rw [if_neg (by omega), if_pos (by omega)]
  | m + 1, k, hm, hk => by
    have hsa : a.Text.data.toList.length = a.Text.size := by rw [Array.length_toList]; rfl
    have hsb : b.Text.data.toList.length = b.Text.size := by rw [Array.length_toList]; rfl
    have h1 : k < a.Text.data.toList.length := by omega
    have h2 : k < b.Text.data.toList.length := by omega
    have c1 : decide ((k : Int) < ((ByteArray.size a.Text : Nat) : Int)) = true := by simp; omega
    have c2 : decide ((k : Int) < ((ByteArray.size b.Text : Nat) : Int)) = true := by simp; omega
    have p1 : 0 ≤ (k : Int) ∧ (k : Int) < ((ByteArray.size a.Text : Nat) : Int) := ⟨by omega, by omega⟩
    have p2 : 0 ≤ (k : Int) ∧ (k : Int) < ((ByteArray.size b.Text : Nat) : Int) := ⟨by omega, by omega⟩
    have hw : IntKind.i64.wrap ((k : Int) + 1) = ((k + 1 : Nat) : Int) := by rw [fC (by omega) (by omega)]; omega
    have ea := List.drop_eq_getElem_cons h1
    have eb := List.drop_eq_getElem_cons h2
    have hb' : fI a b (k : Int) = some (if a.Text.data.toList[k] = b.Text.data.toList[k] then .inl ((k + 1 : Nat) : Int) else .inr (.inr (zM a.Text.data.toList[k] b.Text.data.toList[k]))) := by
      simp only [fI, c1, c2, Bool.and_self, cond_true, aV p1, aV p2, aAi h1, aAi h2, hw]
      generalize a.Text.data.toList[k] = x
      generalize b.Text.data.toList[k] = y
      by_cases e : x = y
      · subst e; simp
      · have e' : ¬ ((x.toNat : Int) = (y.toNat : Int)) := fun h => e (UInt8.toNat_inj.1 (by omega))
        simp only [e', decide_false, Bool.not_false, cond_true, if_neg e]
        unfold zM
        simp only [UInt8.lt_iff_toNat_lt]
        by_cases l : x.toNat < y.toNat
        · have : ((x.toNat : Int) < (y.toNat : Int)) := by omega
          simp [l]
        · have l2 : y.toNat < x.toNat := by
            rcases Nat.lt_or_ge y.toNat x.toNat with h | h
            · exact h
            · exact absurd (UInt8.toNat_inj.1 (by omega)) e
          simp [l, l2]
    by_cases e : a.Text.data.toList[k] = b.Text.data.toList[k]
    · rw [if_pos e] at hb'
      obtain ⟨x, hx1, hx2⟩ := QL ha hb m (k + 1) (by omega) (by omega)
      refine ⟨x, by rw [eD (show (fun s => fI a b s) (k : Int) = _ from hb')]; exact hx1, ?_⟩
      rw [ea, eb, fB, if_pos e]; exact hx2
    · rw [if_neg e] at hb'
      refine ⟨_, cI (show (fun s => fI a b s) (k : Int) = _ from hb'), .inr ⟨_, rfl, ?_⟩⟩
      rw [ea, eb, fB, if_neg e]

theorem MB {v : aF} (h : rB v = true) : v.Text.size ≤ 64 := by
  rcases HD h with h | ⟨_, h⟩
  · rw [(AR h).2]; decide
  · exact (yH h).2.2

theorem MG {v : aF} (h : rB v = true) : v.Kind = 1 ∨ v.Kind = 2 := by
  rcases HD h with h | ⟨_, h⟩
  · exact .inl (AR h).1
  · exact .inr (yH h).1

theorem OM {a b : aF} (ha : rB a = true) (hb : rB b = true) : pN a b = some (wG a b) := by
  unfold pN
  simp only [JM, ha, hb, Option.bind_some, Bool.not_true, Bool.not_false, dK, cond_true, Bool.or_self, cond_false]
  unfold wG
  by_cases hk : a.Kind = b.Kind
  · rw [if_pos hk]
    by_cases hn : a.Num = b.Num
    · rw [if_pos hn]
      simp only [hk, hn, decide_true, Bool.not_true, cond_false, qT]
      obtain ⟨x, e, hx⟩ := QL (MB ha) (MB hb) _ 0 rfl (Nat.zero_le _)
      simp only [Int.natCast_zero, List.drop_zero] at e hx
      rw [e]
      have ht : LP a.Text b.Text = fB zM a.Text.data.toList b.Text.data.toList := rfl
      rcases hx with ⟨rfl, h⟩ | ⟨v, rfl, h⟩
      · rw [ht, h]
        simp only [Option.bind_some, Sum.elim_inl, oP]
        unfold mC
        by_cases h1 : a.Text.size = b.Text.size
        · have h1' : ((a.Text.size : Nat) : Int) = ((b.Text.size : Nat) : Int) := by omega
          simp [h1']
        · have h1' : ¬ ((a.Text.size : Nat) : Int) = ((b.Text.size : Nat) : Int) := by omega
          by_cases h2 : ((a.Text.size : Nat) : Int) < ((b.Text.size : Nat) : Int)
          · simp only [h1', h2, decide_false, decide_true, Bool.not_false, cond_true, if_true]
          · have h3 : ((b.Text.size : Nat) : Int) < ((a.Text.size : Nat) : Int) := by omega
            simp only [h1', h2, h3, decide_false, Bool.not_false, cond_true, cond_false, if_true, if_false]
      · rw [ht, h]; rfl
    · rw [if_neg hn]
      simp only [hk, hn, decide_true, decide_false, Bool.not_true, Bool.not_false, cond_false, cond_true]
      unfold mC
      by_cases h1 : a.Num < b.Num
      · simp [h1]
      · have h2 : b.Num < a.Num := by omega
        simp [h1, h2]
  · rw [if_neg hk]
    simp only [hk, decide_false, Bool.not_false, cond_true]
    rcases MG ha with h1 | h1 <;> rcases MG hb with h2 | h2
    · exact absurd (h1.trans h2.symm) hk
    · rw [h1, h2]; rfl
    · rw [h1, h2]; rfl
    · exact absurd (h1.trans h2.symm) hk

theorem MD {a b : List aF} (ha : gK a = true) (hb : gK b = true) : ∀ (m k : Nat), min a.length b.length - k = m → k ≤ min a.length b.length →
    ∃ x, lp (fun s => fK a b s) (k : Int) = some x ∧ ((x = .inl () ∧ dS (a.drop k) (b.drop k) = mC a.length b.length) ∨ (∃ v, x = .inr v ∧ dS (a.drop k) (b.drop k) = v))
  | 0, k, hm, hk => by
    refine ⟨.inl (), cI ?_, .inl ⟨rfl, QO (by omega) (by omega) (by omega)⟩⟩
    show fK a b _ = _
    have : ((decide ((k : Int) < ((a.length : Nat) : Int))) && (decide ((k : Int) < ((b.length : Nat) : Int)))) = false := by
      rw [Bool.and_eq_false_iff]
      simp only [decide_eq_false_iff_not]
      omega
    simp only [fK, this, cond_false]
  | m + 1, k, hm, hk => by
    obtain ⟨la, ma⟩ := wP ha
    obtain ⟨lb, mb⟩ := wP hb
    have h1 : k < a.length := by omega
    have h2 : k < b.length := by omega
    obtain ⟨d1, d2, d3, d4⟩ := idx (List.getElem?_eq_getElem h1) (by omega)
    obtain ⟨e1, e2, e3, _⟩ := idx (List.getElem?_eq_getElem h2) (by omega)
    have ea := List.drop_eq_getElem_cons h1
    have eb := List.drop_eq_getElem_cons h2
    have hb' : fK a b (k : Int) = some (if a[k] = b[k] then .inl ((k + 1 : Nat) : Int) else .inr (.inr (wG a[k] b[k]))) := by
      simp only [fK, d1, e1, Bool.and_self, cond_true, aV d2, aV e2, d3, e3, d4, OM (ma _ (List.getElem_mem h1)) (mb _ (List.getElem_mem h2)), Option.bind_some]
      by_cases h : a[k] = b[k]
      · have := (DO.eq a[k] b[k]).2 h
        simp [h, (DO.eq b[k] b[k]).2 rfl]
      · have : ¬ wG a[k] b[k] = 0 := fun h' => h ((DO.eq _ _).1 h')
        simp [h, this]
    by_cases h : a[k] = b[k]
    · rw [if_pos h] at hb'
      obtain ⟨x, hx1, hx2⟩ := MD ha hb m (k + 1) (by omega) (by omega)
      refine ⟨x, by rw [eD (show (fun s => fK a b s) (k : Int) = _ from hb')]; exact hx1, ?_⟩
      have hc : dS (a.drop k) (b.drop k) = dS (a.drop (k + 1)) (b.drop (k + 1)) := by
        rw [ea, eb]; unfold dS; rw [fB, if_pos h]
      rw [hc]; exact hx2
    · rw [if_neg h] at hb'
      refine ⟨_, cI (show (fun s => fK a b s) (k : Int) = _ from hb'), .inr ⟨_, rfl, ?_⟩⟩
      rw [ea, eb]; unfold dS; rw [fB, if_neg h]

theorem GB (a b : List aF) (hla : a.length ≤ 17592186044416) (hlb : b.length ≤ 17592186044416) : nD a b = some (if gK a && gK b then dS a b else 0) := by
  unfold nD
  rw [EN a (by omega)]
  simp only [Option.bind_some]
  cases ha : gK a
  · simp [dK]
  · simp only [Bool.not_true, Bool.not_false, dK, cond_true, EN b (by omega), Option.bind_some, Bool.false_or]
    cases hb : gK b
    · simp
    · simp only [Bool.not_true, cond_false, qW, Bool.and_self, if_true]
      obtain ⟨x, e, hx⟩ := MD ha hb _ 0 rfl (Nat.zero_le _)
      simp only [Int.natCast_zero, List.drop_zero] at e hx
      rw [e]
      rcases hx with ⟨rfl, h⟩ | ⟨v, rfl, h⟩
      · rw [h]
        simp only [Option.bind_some, Sum.elim_inl, oO]
        unfold mC
        by_cases h1 : a.length < b.length
        · simp [h1]
        · by_cases h2 : b.length < a.length <;> simp [h1, h2]
      · rw [h]; rfl

end Go.Abs
namespace Go.Abs
open Go
def jE (e : aC) : aB := ⟨e.At, e.Net⟩

def gA (r : List aF) (f : List aB) : List aC → List (List aF × List aB)
  | [] => [(r, f)]
  | e :: l => if e.Row = r then gA r (f ++ [jE e]) l else (r, f) :: gA e.Row [jE e] l

def groups : List aC → List (List aF × List aB)
  | [] => []
  | e :: l => gA e.Row [jE e] l

def itG {σ : Type} (y : σ → List aF → List aB → Option (σ × Bool)) : List (List aF × List aB) → σ → Option σ
  | [], s => some s
  | g :: gs, s => (y s g.1 g.2).bind fun x => if x.2 then itG y gs x.1 else some x.1

def okL (l : List aC) : Prop := l.length ≤ 3518437208783 ∧ ∀ e ∈ l, e.Row.length ≤ 4398046510976

theorem KH {r : List aF} (h : r.length ≤ 4398046510976) : tZ r = some r := by
  unfold tZ
  rw [aV ⟨by omega, by omega, by omega⟩, aV (by simp only [List.length_nil, Nat.zero_add]; omega)]
  rfl

theorem KO {σ : Type} {y : σ → List aF → List aB → Option (σ × Bool)} {l : List aC} (hl : okL l) (row : List aF) (sg : σ) : ∀ (r : List aC) (k : Nat) (f : List aB), l.drop k = r → k ≤ l.length → f.length ≤ k →
    ∃ k' f', k ≤ k' ∧ k' ≤ l.length ∧ f'.length ≤ k' ∧ lp (fun s : σ × Int × List aB => gT y l row s.1 s.2.1 s.2.2) (sg, (k : Int), f) = some (sg, ((k' : Nat) : Int), f') ∧
      gA row f r = (row, f') :: groups (l.drop k') ∧ (∀ e r', r = e :: r' → e.Row = row → k < k')
  | [], k, f, hd, hk, hf => by
    have : k = l.length := by
      have := congrArg List.length hd
      simp only [List.length_drop, List.length_nil] at this; omega
    subst this
    refine ⟨l.length, f, Nat.le_refl _, Nat.le_refl _, hf, cI ?_, by simp [gA, groups], fun e r' h => by cases h⟩
    show gT _ _ _ _ _ _ = _
    simp only [gT, dP, dK, cond_false, Option.bind_some, Bool.false_and]
    exact aV (fun h => by cases h)
  | a :: r, k, f, hd, hk, hf => by
    obtain ⟨h1, h2⟩ := drop_cons hd
    have hlt : k < l.length := (List.getElem?_eq_some_iff.1 h1).1
    obtain ⟨hll, hlr⟩ := hl
    obtain ⟨d1, d2, d3, d4⟩ := idx h1 (by omega)
    have har := hlr a (List.mem_of_getElem? h1)
    have hb : (fun s : σ × Int × List aB => gT y l row s.1 s.2.1 s.2.2) (sg, (k : Int), f) = some (if a.Row = row then .inl (sg, ((k + 1 : Nat) : Int), f ++ [jE a]) else .inr (sg, (k : Int), f)) := by
      show gT _ _ _ _ _ _ = _
      simp only [gT, d1, d3, d4, dK, cond_true, VU a.Row row (by omega), Option.bind_some, Bool.true_and]
      rw [aV (fun _ => d2)]
      by_cases e : a.Row = row
      · simp only [e, decide_true, cond_true, if_true]
        rw [aV d2, aV d2, aV (by simp only [List.length_cons, List.length_nil]; omega)]
        rfl
      · simp [e]
    by_cases e : a.Row = row
    · rw [if_pos e] at hb
      obtain ⟨k', f', g1, g2, g3, g4, g5, _⟩ := KO ⟨hll, hlr⟩ row sg r (k + 1) (f ++ [jE a]) h2 (by omega) (by simp; omega) (y := y)
      refine ⟨k', f', by omega, g2, g3, by rw [eD hb]; exact g4, by simp [gA, e, g5], fun _ _ _ _ => by omega⟩
    · rw [if_neg e] at hb
      refine ⟨k, f, Nat.le_refl _, hk, hf, cI hb, ?_, fun b r' h hr => by cases h; exact absurd hr e⟩
      rw [hd]; simp [gA, e, groups]

theorem VL {σ : Type} {y : σ → List aF → List aB → Option (σ × Bool)} {l : List aC} (hl : okL l) : ∀ (m k : Nat) (sg s' : σ), l.length - k ≤ m → k ≤ l.length → itG y (groups (l.drop k)) sg = some s' →
    ∃ x, lp (fun s : σ × Int => fJ y l s.1 s.2) (sg, (k : Int)) = some x ∧ Sum.elim id id x = s' := by
  have stop : ∀ (sg s' : σ), itG y (groups (l.drop l.length)) sg = some s' → ∃ x, lp (fun s : σ × Int => fJ y l s.1 s.2) (sg, ((l.length : Nat) : Int)) = some x ∧ Sum.elim id id x = s' := by
    intro sg s' h
    rw [List.drop_length] at h
    simp only [groups, itG, Option.some.injEq] at h
    refine ⟨.inl sg, cI ?_, h⟩
    show fJ _ _ _ _ = _
    simp only [fJ, dP, cond_false]
  intro m
  induction m with
  | zero =>
    intro k sg s' hm hk h
    have : k = l.length := by omega
    subst this; exact stop sg s' h
  | succ m ih =>
    intro k sg s' hm hk h
    by_cases he : k = l.length
    · subst he; exact stop sg s' h
    · have hlt : k < l.length := by omega
      have hd : l.drop k = l[k] :: l.drop (k + 1) := List.drop_eq_getElem_cons hlt
      obtain ⟨d1, d2, d3, d4⟩ := idx (List.getElem?_eq_getElem hlt) (by have := hl.1; omega)
      obtain ⟨k', f', g1, g2, g3, g4, g5, g6⟩ := KO hl l[k].Row sg (l.drop k) k [] rfl hk (by simp) (y := y)
      have hk' := g6 _ _ hd rfl
      have hg : groups (l.drop k) = (l[k].Row, f') :: groups (l.drop k') := by
        rw [← g5, hd]; simp [groups, gA]
      rw [hg] at h
      simp only [itG] at h
      obtain ⟨x, hx, h⟩ := aY h
      have hrow := hl.2 _ (List.getElem_mem hlt)
      have hb : (fun s : σ × Int => fJ y l s.1 s.2) (sg, (k : Int)) = some (if x.2 then .inl (x.1, ((k' : Nat) : Int)) else .inr (.inr x.1)) := by
        show fJ _ _ _ _ = _
        simp only [fJ, d1, cond_true, aV d2, d3, qV, g4, Option.bind_some, oH, KH hrow, hx]
        cases x.2 <;> simp
      cases hx2 : x.2
      · rw [hx2] at hb h
        simp only [Bool.false_eq_true, if_false, Option.some.injEq] at hb h
        exact ⟨_, cI hb, h⟩
      · rw [hx2] at hb h
        simp only [if_true] at hb h
        obtain ⟨z, hz1, hz2⟩ := ih k' x.1 s' (by omega) g2 h
        exact ⟨z, by rw [eD hb]; exact hz1, hz2⟩

theorem UH {σ : Type} {y : σ → List aF → List aB → Option (σ × Bool)} {l : List aC} (hl : okL l) {s s' : σ} (h : itG y (groups l) s = some s') : nB y l s = some s' := by
  unfold nB qY
  obtain ⟨x, h1, h2⟩ := VL hl l.length 0 s s' (by omega) (Nat.zero_le _) (by simpa using h)
  simp only [Int.natCast_zero] at h1
  rw [h1]
  cases x <;> simpa using h2

def ahd (last : Option (List aF)) (r : List aF) : Bool := match last with
  | none => true
  | some q => decide (dS q r < 0)

def vV (p : List aB → Bool) : Option (List aF) → List (List aF × List aB) → Bool
  | _, [] => true
  | last, g :: gs => (gK g.1 && ahd last g.1 && p g.2) && vV p (some g.1) gs

theorem UG {holds : List aB → Option Bool} {p : List aB → Bool} (hp : ∀ f, holds f = some (p f)) (c : List aC) (t : Bool) : ∀ (gs : List (List aF × List aB)) (last : List aF) (b : Bool), (b = true → gK last = true) →
    ∃ x, itG (fun st r f => rnd (fun (s : Bool × (List aF) × Bool) => oD holds c s.1 s.2.1 s.2.2 r f) st) gs (.inl (t, last, b)) = some x ∧
      (if vV p (if b then some last else none) gs then ∃ u, x = .inl (t, u) else ∃ u, x = .inr (false, u))
  | [], last, b, _ => ⟨_, rfl, by simp [vV]⟩
  | g :: gs, last, b, hb => by
    have hy : oD holds c t last b g.1 g.2 = some (if gK g.1 && ahd (if b then some last else none) g.1 && p g.2 then .inl (t, g.1, true) else .inr (false, last, b)) := by
      unfold oD
      simp only [HE, Option.bind_some, LW, hp]
      cases hm : gK g.1
      · simp [dK]
      · cases b
        · cases h2 : p g.2 <;> simp [dK, ahd, h2]
        · have hl := hb rfl
          by_cases h1 : dS last g.1 < 0
          · have h1' : ¬ (0 ≤ dS last g.1) := by omega
            cases h2 : p g.2 <;> simp [dK, ahd, h2, hl, h1, h1']
          · have h1' : 0 ≤ dS last g.1 := by omega
            simp [dK, ahd, hl, h1, h1']
    cases hc : (gK g.1 && ahd (if b then some last else none) g.1 && p g.2)
    · rw [hc] at hy
      simp only [itG, rnd, hy, Option.bind_some, vV, hc]
      exact ⟨.inr (false, last, b), by simp, by simp⟩
    · rw [hc] at hy
      simp only [itG, rnd, hy, Option.bind_some, vV, hc]
      have hm : gK g.1 = true := by simp only [Bool.and_eq_true] at hc; exact hc.1.1
      obtain ⟨x, h1, h2⟩ := UG hp c t gs g.1 true (fun _ => hm)
      refine ⟨x, ?_, ?_⟩
      · simpa [rnd] using h1
      · simpa using h2

theorem TG {l : List aC} (hl : okL l) {holds : List aB → Option Bool} {p : List aB → Bool} (hp : ∀ f, holds f = some (p f)) : sJ l holds = some (decide (l.length ≤ 4096) && vV p none (groups l)) := by
  unfold sJ
  by_cases h : l.length ≤ 4096
  · have h1 : decide ((4096 : Int) < ((l.length : Nat) : Int)) = false := by simp; omega
    rw [h1, cond_false]
    simp only [sE, Option.bind_some, xC]
    obtain ⟨x, e1, e2⟩ := UG hp l false (groups l) [] false (fun h => by cases h)
    rw [UH hl e1]
    simp only [Bool.false_eq_true, if_false] at e2
    simp only [h, decide_true, Bool.true_and]
    cases hc : vV p none (groups l)
    · rw [hc] at e2
      simp only [Bool.false_eq_true, if_false] at e2
      obtain ⟨u, rfl⟩ := e2
      rfl
    · rw [hc] at e2
      simp only [if_true] at e2
      obtain ⟨u, rfl⟩ := e2
      rfl
  · have h1 : decide ((4096 : Int) < ((l.length : Nat) : Int)) = true := by simp; omega
    rw [h1, cond_true]
    simp [h]

def mD (l : List aC) : Bool := decide (l.length ≤ 4096) && vV iJ none (groups l)

theorem aAw {l : List aC} (hl : okL l) : xP l = some (mD l) := by
  unfold xP
  rw [TG hl (p := iJ) (fun f => JI f)]; rfl

def LO (f : List aB) : Bool := iJ f && decide (0 ≤ sV f)

def oM (l : List aC) : Bool := decide (l.length ≤ 4096) && vV LO none (groups l)

theorem MT {l : List aC} (hl : okL l) : qH l = some (oM l) := by
  unfold qH
  rw [TG hl (p := LO) (fun f => by
    unfold qF LO
    rw [JI]
    cases h : iJ f <;> simp [dK, YL, h])]
  rfl

def dJ (r : List aF) (f : List aB) : List aC := f.map fun j => ⟨r, j.At, j.Net⟩

theorem put_eq {out : List aC} {r : List aF} {f : List aB} (hr : r.length ≤ 4398046510976) (hl : out.length + f.length ≤ 1099511627776) : xU out r f = some (out ++ dJ r f) := by
  unfold xU yX
  rw [mK (l := f) (body := fun s : List aC × Int => nQ r f (f.length : Nat) s.1 s.2) (fun o i => (o, i)) (fun o t => o ++ dJ r t) (fun o t => o.length + t.length ≤ 1099511627776) out ?_ ?_ hl]
  · rfl
  · intro i a t o ha hi
    left
    obtain ⟨d1, d2, d3, d4⟩ := idx ha (by have := (List.getElem?_eq_some_iff.1 ha).1; omega)
    simp only [List.length_cons] at hi
    refine ⟨o ++ [⟨r, a.At, a.Net⟩], ?_, by simp; omega, by simp [dJ]⟩
    show nQ _ _ _ _ _ = _
    simp only [nQ, d1, cond_true, aV d2, d3, d4, KH hr, Option.bind_some]
    exact aV (by simp only [List.length_cons, List.length_nil]; omega)
  · intro o _
    show nQ _ _ _ _ _ = _
    simp only [nQ, dP, cond_false]
    simp [dJ]

def lC (by1 : List aB → List aB × Int) : List (List aF × List aB) → List aC → List aC × Int
  | [], out => (out, 0)
  | g :: gs, out => if (by1 g.2).2 ≠ 0 then ([], (by1 g.2).2) else if 4096 < (out ++ dJ g.1 (by1 g.2).1).length then ([], 7) else lC by1 gs (out ++ dJ g.1 (by1 g.2).1)

theorem LS {by0 : List aB → Option (List aB × Int)} {by1 : List aB → List aB × Int} (c : List aC) : ∀ (gs : List (List aF × List aB)) (out : List aC), out.length ≤ 4096 → (∀ g ∈ gs, by0 g.2 = some (by1 g.2) ∧ (by1 g.2).1.length ≤ 1024 ∧ g.1.length ≤ 4398046510976) →
    ∃ x, itG (fun st r f => rnd (fun (s : (List aC) × Int × List aC) => mJ by0 c s.1 s.2.1 s.2.2 r f) st) gs (.inl ([], 0, out)) = some x ∧ Sum.elim (fun s : (List aC) × Int × List aC => (s.2.2, (0 : Int))) (fun s => (s.1, s.2.1)) x = lC by1 gs out
  | [], out, _, _ => ⟨_, rfl, rfl⟩
  | g :: gs, out, ho, hg => by
    obtain ⟨h1, h2, h3⟩ := hg g (by simp)
    have hy : mJ by0 c [] 0 out g.1 g.2 = some (if (by1 g.2).2 ≠ 0 then .inr ([], (by1 g.2).2, out) else if 4096 < (out ++ dJ g.1 (by1 g.2).1).length then .inr ([], 7, out ++ dJ g.1 (by1 g.2).1) else .inl ([], 0, out ++ dJ g.1 (by1 g.2).1)) := by
      unfold mJ
      simp only [h1, Option.bind_some, put_eq h3 (show out.length + (by1 g.2).1.length ≤ 1099511627776 by omega)]
      by_cases e1 : (by1 g.2).2 = 0
      · by_cases e2 : 4096 < (out ++ dJ g.1 (by1 g.2).1).length
        · have e2' : (4096 : Int) < (((out ++ dJ g.1 (by1 g.2).1).length : Nat) : Int) := by omega
          simp only [e1, e2, e2', decide_true, Bool.not_true, cond_false, cond_true, ne_eq, not_true_eq_false, if_false, if_true]
        · have e2' : ¬ (4096 : Int) < (((out ++ dJ g.1 (by1 g.2).1).length : Nat) : Int) := by omega
          simp only [e1, e2, e2', decide_true, decide_false, Bool.not_true, cond_false, ne_eq, not_true_eq_false, if_false]
      · simp only [e1, decide_false, Bool.not_false, cond_true, ne_eq, not_false_eq_true, if_true]
    simp only [itG, rnd, hy, Option.bind_some, lC]
    by_cases e1 : (by1 g.2).2 ≠ 0
    · rw [if_pos e1, if_pos e1]; exact ⟨_, rfl, rfl⟩
    · rw [if_neg e1, if_neg e1]
      by_cases e2 : 4096 < (out ++ dJ g.1 (by1 g.2).1).length
      · rw [if_pos e2, if_pos e2]; exact ⟨_, rfl, rfl⟩
      · rw [if_neg e2, if_neg e2]
        exact LS c gs _ (by omega) (fun q hq => hg q (by simp [hq]))

theorem XR {l : List aC} (hl : okL l) {by0 : List aB → Option (List aB × Int)} {by1 : List aB → List aB × Int} (hb : ∀ g ∈ groups l, by0 g.2 = some (by1 g.2) ∧ (by1 g.2).1.length ≤ 1024 ∧ g.1.length ≤ 4398046510976) : rT l by0 = some (lC by1 (groups l) []) := by
  unfold rT
  simp only [sE, Option.bind_some, uE]
  obtain ⟨x, e1, e2⟩ := LS (by0 := by0) (by1 := by1) l (groups l) [] (by simp) hb
  rw [UH hl e1]
  cases x <;> simpa using e2

def flat (gs : List (List aF × List aB)) : List aC := gs.flatMap fun g => dJ g.1 g.2

theorem LB : ∀ (l : List aC) (r : List aF) (f : List aB), flat (gA r f l) = dJ r f ++ l
  | [], r, f => by simp [gA, flat]
  | e :: l, r, f => by
    unfold gA
    split
    · rename_i h
      rw [LB l r]
      simp [dJ, jE, ← h]
    · have := LB l e.Row [jE e]
      simp only [flat, List.flatMap_cons] at this ⊢
      rw [this]
      simp [dJ, jE]

theorem yT (l : List aC) : flat (groups l) = l := by
  cases l with
  | nil => rfl
  | cons e l => unfold groups; rw [LB]; simp [dJ, jE]

theorem QH {r : List aF} : ∀ {l : List aC} {f : List aB} {g : List aF × List aB}, g ∈ gA r f l → f ≠ [] → g.2 ≠ [] ∧ (g.1 = r ∨ ∃ e ∈ l, g.1 = e.Row)
  | [], f, g, h, hf => by simp only [gA, List.mem_singleton] at h; subst h; exact ⟨hf, .inl rfl⟩
  | e :: l, f, g, h, hf => by
    unfold gA at h
    split at h
    · obtain ⟨h1, h2⟩ := QH h (by simp)
      exact ⟨h1, h2.imp id fun ⟨x, hx, hx'⟩ => ⟨x, by simp [hx], hx'⟩⟩
    · rcases List.mem_cons.1 h with rfl | h
      · exact ⟨hf, .inl rfl⟩
      · obtain ⟨h1, h2⟩ := QH (r := e.Row) h (by simp)
        refine ⟨h1, .inr ?_⟩
        rcases h2 with h2 | ⟨x, hx, hx'⟩
        · exact ⟨e, by simp, h2⟩
        · exact ⟨x, by simp [hx], hx'⟩

theorem EM {l : List aC} {g : List aF × List aB} (h : g ∈ groups l) : g.2 ≠ [] ∧ ∃ e ∈ l, g.1 = e.Row := by
  cases l with
  | nil => simp [groups] at h
  | cons e l =>
    obtain ⟨h1, h2⟩ := QH h (by simp)
    refine ⟨h1, ?_⟩
    rcases h2 with h2 | ⟨x, hx, hx'⟩
    · exact ⟨e, by simp, h2⟩
    · exact ⟨x, by simp [hx], hx'⟩

end Go.Abs
namespace Go.Abs
open Go
def bO (l : List aC) (r : List aF) : List aB := (l.filter fun e => decide (e.Row = r)).map jE

theorem yG (a b : List aC) (r : List aF) : bO (a ++ b) r = bO a r ++ bO b r := by simp [bO]

theorem NL (q : List aF) (f : List aB) (r : List aF) : bO (dJ q f) r = if q = r then f else [] := by
  induction f with
  | nil => simp [bO, dJ]
  | cons j f ih =>
    have h1 : dJ q (j :: f) = [⟨q, j.At, j.Net⟩] ++ dJ q f := rfl
    rw [h1, yG, ih]
    by_cases h : q = r <;> simp [bO, jE, h]

def look : List (List aF × List aB) → List aF → List aB
  | [], _ => []
  | g :: gs, r => if g.1 = r then g.2 else look gs r

theorem wL (g : List aF × List aB) (gs : List (List aF × List aB)) (r : List aF) : look (g :: gs) r = if g.1 = r then g.2 else look gs r := rfl

abbrev ltG (a b : List aF × List aB) : Prop := dS a.1 b.1 < 0

abbrev uP (gs : List (List aF × List aB)) : Prop := gs.Pairwise ltG

abbrev Full (gs : List (List aF × List aB)) : Prop := ∀ g ∈ gs, g.2 ≠ []

theorem tM {a : List aF} : ¬ dS a a < 0 := by rw [(kA.eq a a).2 rfl]; omega

theorem LV : ∀ {gs : List (List aF × List aB)} {r : List aF}, (∀ g ∈ gs, g.1 ≠ r) → look gs r = []
  | [], _, _ => rfl
  | g :: gs, r, h => by
    rw [wL]
    rw [if_neg (h g (by simp))]
    exact LV fun q hq => h q (by simp [hq])

theorem zY (gs : List (List aF × List aB)) (r : List aF) : (look gs r = [] ∧ ∀ g ∈ gs, g.1 ≠ r) ∨ ∃ g ∈ gs, g.1 = r ∧ look gs r = g.2 := by
  induction gs with
  | nil => exact .inl ⟨rfl, by simp⟩
  | cons g gs ih =>
    rw [wL]
    by_cases h : g.1 = r
    · rw [if_pos h]; exact .inr ⟨g, by simp, h, rfl⟩
    · rw [if_neg h]
      rcases ih with ⟨h1, h2⟩ | ⟨q, hq, h1, h2⟩
      · refine .inl ⟨h1, fun q hq => ?_⟩
        rcases List.mem_cons.1 hq with rfl | hq
        · exact h
        · exact h2 q hq
      · exact .inr ⟨q, by simp [hq], h1, h2⟩

theorem ER {gs : List (List aF × List aB)} (hs : uP gs) {g : List aF × List aB} (hg : g ∈ gs) : look gs g.1 = g.2 := by
  induction gs with
  | nil => simp at hg
  | cons q gs ih =>
    have hs' := List.pairwise_cons.1 hs
    rw [wL]
    rcases List.mem_cons.1 hg with rfl | hg
    · rw [if_pos rfl]
    · rw [if_neg (fun e => by have := hs'.1 g hg; simp only [ltG, e] at this; exact tM this)]
      exact ih hs'.2 hg

theorem sZ (g : List aF × List aB) (gs : List (List aF × List aB)) : flat (g :: gs) = dJ g.1 g.2 ++ flat gs := rfl

theorem xW : ∀ {gs : List (List aF × List aB)}, uP gs → ∀ r, bO (flat gs) r = look gs r
  | [], _, r => rfl
  | g :: gs, hs, r => by
    have hs' := List.pairwise_cons.1 hs
    rw [sZ, yG, NL, xW hs'.2, wL]
    by_cases h : g.1 = r
    · rw [if_pos h, if_pos h, LV, List.append_nil]
      intro q hq e
      have := hs'.1 q hq
      simp only [ltG, h, e] at this; exact tM this
    · rw [if_neg h, if_neg h]; rfl

theorem tQ {p : List aB → Bool} : ∀ {gs : List (List aF × List aB)} {last : Option (List aF)}, vV p last gs = true ↔ (∀ g ∈ gs, gK g.1 = true ∧ p g.2 = true) ∧ uP gs ∧ (∀ q, last = some q → ∀ g ∈ gs, dS q g.1 < 0)
  | [], last => by simp [vV]
  | g :: gs, last => by
    unfold vV
    simp only [Bool.and_eq_true, tQ (gs := gs), List.mem_cons, List.pairwise_cons]
    constructor
    · rintro ⟨⟨⟨h1, h2⟩, h3⟩, h4, h5, h6⟩
      refine ⟨?_, ⟨fun q hq => h6 _ rfl q hq, h5⟩, ?_⟩
      · rintro q (rfl | hq)
        · exact ⟨h1, h3⟩
        · exact h4 q hq
      · rintro q rfl x (rfl | hx)
        · simpa [ahd] using h2
        · simp only [ahd, decide_eq_true_eq] at h2
          exact kA.trans _ _ _ h2 (h6 _ rfl x hx)
    · rintro ⟨h1, ⟨h2, h3⟩, h4⟩
      refine ⟨⟨⟨(h1 g (.inl rfl)).1, ?_⟩, (h1 g (.inl rfl)).2⟩, fun q hq => h1 q (.inr hq), h3, ?_⟩
      · unfold ahd
        split
        · rfl
        · exact decide_eq_true (h4 _ rfl g (.inl rfl))
      · rintro q hq x hx
        cases hq
        exact h2 x hx

theorem wQ {l : List aC} (h : mD l = true) : l.length ≤ 4096 ∧ (∀ g ∈ groups l, gK g.1 = true ∧ iJ g.2 = true) ∧ uP (groups l) := by
  simp only [mD, Bool.and_eq_true, decide_eq_true_eq] at h
  obtain ⟨h1, h2, _⟩ := tQ.1 h.2
  exact ⟨h.1, h1, h2⟩

theorem XS {l : List aC} (h : mD l = true) (r : List aF) : iJ (look (groups l) r) = true := by
  rcases zY (groups l) r with ⟨h1, _⟩ | ⟨g, hg, _, h1⟩
  · rw [h1]; exact aAC
  · rw [h1]; exact ((wQ h).2.1 g hg).2

theorem qU {l : List aC} (h : uP (groups l)) (r : List aF) : look (groups l) r = bO l r := by
  rw [← xW h, yT]

theorem TU (r : List aF) (f : List aB) (e : aC) (l : List aC) : gA r f (e :: l) = if e.Row = r then gA r (f ++ [jE e]) l else (r, f) :: gA e.Row [jE e] l := rfl

theorem RE (r : List aF) : ∀ (f2 f : List aB) (l : List aC), gA r f (dJ r f2 ++ l) = gA r (f ++ f2) l
  | [], f, l => by simp [dJ]
  | j :: f2, f, l => by
    show gA r f (⟨r, j.At, j.Net⟩ :: (dJ r f2 ++ l)) = _
    rw [TU, if_pos rfl, RE r f2]
    simp [jE]

theorem LY : ∀ {gs : List (List aF × List aB)}, uP gs → Full gs → groups (flat gs) = gs
  | [], _, _ => rfl
  | (r, f) :: gs, hs, hf => by
    have hs' := List.pairwise_cons.1 hs
    have hne := hf (r, f) (by simp)
    have ih := LY hs'.2 (fun g hg => hf g (by simp [hg]))
    cases f with
    | nil => exact absurd rfl hne
    | cons j f =>
      rw [sZ]
      show gA r [jE ⟨r, j.At, j.Net⟩] (dJ r f ++ flat gs) = _
      rw [RE]
      have key : ∀ (F : List aB), gA r F (flat gs) = (r, F) :: groups (flat gs) := by
        intro F
        cases gs with
        | nil => rfl
        | cons g gs =>
          obtain ⟨q, f'⟩ := g
          have hq := hf (q, f') (by simp)
          cases f' with
          | nil => exact absurd rfl hq
          | cons j' f' =>
            have hqr : q ≠ r := fun e => by
              have := hs'.1 (q, j' :: f') (by simp)
              simp only [ltG, e] at this; exact tM this
            rw [sZ]
            show gA r F (⟨q, j'.At, j'.Net⟩ :: (dJ q f' ++ flat gs)) = _
            rw [gA, if_neg hqr]
            rfl
      rw [key, ih]
      rfl

def GD (gs : List (List aF × List aB)) : List (List aF × List aB) := gs.filter fun g => !g.2.isEmpty

theorem BU : ∀ (gs : List (List aF × List aB)), flat (GD gs) = flat gs
  | [] => rfl
  | (r, []) :: gs => by
    have : GD ((r, []) :: gs) = GD gs := rfl
    rw [this, BU gs, sZ]; rfl
  | (r, j :: f) :: gs => by
    have : GD ((r, j :: f) :: gs) = (r, j :: f) :: GD gs := rfl
    rw [this, sZ, sZ, BU gs]

theorem WL (gs : List (List aF × List aB)) : Full (GD gs) := by
  intro g hg
  have := (List.mem_filter.1 hg).2
  intro h; rw [h] at this; simp at this

theorem BL {gs : List (List aF × List aB)} (hs : uP gs) : groups (flat gs) = GD gs := by
  rw [← BU]
  exact LY (hs.filter _) (WL gs)

theorem WQ {gs : List (List aF × List aB)} (hs : uP gs) (r : List aF) : look (groups (flat gs)) r = look gs r := by
  have h1 := xW (gs := GD gs) (hs.filter _) r
  rw [BL hs, ← h1, ← xW hs, BU]

theorem XL {gs : List (List aF × List aB)} (hs : uP gs) (hm : ∀ g ∈ gs, gK g.1 = true ∧ iJ g.2 = true) (hl : (flat gs).length ≤ 4096) : mD (flat gs) = true := by
  simp only [mD, Bool.and_eq_true, decide_eq_true_eq]
  refine ⟨hl, tQ.2 ?_⟩
  rw [BL hs]
  exact ⟨fun g hg => hm g (List.mem_filter.1 hg).1, hs.filter _, by simp⟩

def GN (by1 : List aB → List aB × Int) (gs : List (List aF × List aB)) : List (List aF × List aB) := gs.map fun g => (g.1, (by1 g.2).1)

theorem QW {by1 : List aB → List aB × Int} {gs : List (List aF × List aB)} (hs : uP gs) : uP (GN by1 gs) := by
  rw [uP, GN, List.pairwise_map]; exact hs

theorem MN {by1 : List aB → List aB × Int} (h0 : (by1 []).1 = []) : ∀ (gs : List (List aF × List aB)) (r : List aF), look (GN by1 gs) r = (by1 (look gs r)).1
  | [], r => h0.symm
  | g :: gs, r => by
    show look ((g.1, (by1 g.2).1) :: GN by1 gs) r = _
    rw [wL, wL]
    by_cases h : g.1 = r
    · rw [if_pos h, if_pos h]
    · rw [if_neg h, if_neg h]; exact MN h0 gs r

theorem TI {by1 : List aB → List aB × Int} : ∀ {gs : List (List aF × List aB)} {out : List aC}, out.length ≤ 4096 → (lC by1 gs out).2 = 0 → (∀ g ∈ gs, (by1 g.2).2 = 0) ∧ (lC by1 gs out).1 = out ++ flat (GN by1 gs) ∧ (lC by1 gs out).1.length ≤ 4096
  | [], out, ho, _ => by simp [lC, GN, flat, ho]
  | g :: gs, out, ho, h => by
    unfold lC at h ⊢
    by_cases e1 : (by1 g.2).2 = 0
    · rw [if_neg (by simp [e1])] at h ⊢
      by_cases e2 : 4096 < (out ++ dJ g.1 (by1 g.2).1).length
      · rw [if_pos e2] at h; simp at h
      · rw [if_neg e2] at h ⊢
        obtain ⟨h1, h2, h3⟩ := TI (by omega) h
        refine ⟨?_, ?_, h3⟩
        · intro q hq
          rcases List.mem_cons.1 hq with rfl | hq
          · exact e1
          · exact h1 q hq
        · rw [h2]; simp [GN, sZ]
    · rw [if_pos e1] at h; exact absurd h e1

theorem OB {by1 : List aB → List aB × Int} : ∀ {gs : List (List aF × List aB)} {out : List aC}, (lC by1 gs out).2 ≠ 0 → (lC by1 gs out).1 = []
  | [], out, h => by simp [lC] at h
  | g :: gs, out, h => by
    unfold lC at h ⊢
    split
    · rfl
    · rename_i e1
      rw [if_neg e1] at h
      split
      · rfl
      · rename_i e2
        rw [if_neg e2] at h
        exact OB h

theorem XU {l : List aC} (hl : okL l) {g : List aF × List aB} (hg : g ∈ groups l) : g.1.length ≤ 4398046510976 := by
  obtain ⟨_, e, he, h⟩ := EM hg
  rw [h]; exact hl.2 e he

theorem SA {f g : List aC} (hl : okL f) : tA f g = some (decide (f = g)) := by
  unfold tA
  by_cases he : f.length = g.length
  · rw [QI he, cond_false]
    unfold vI
    have := NW (f := f) (g := g) (body := fun s => pJ f g s) he ?_ ?_ f.length 0 rfl (Nat.zero_le _)
    · simp only [Int.natCast_zero, List.drop_zero] at this
      rw [this]
      by_cases h : f = g <;> simp [h, rZ]
    · intro i x y hx hy
      have hll := hl.1
      obtain ⟨d1, d2, d3, d4⟩ := idx hx (by omega)
      obtain ⟨_, e2, e3, _⟩ := idx hy (by omega)
      have hr := hl.2 x (List.mem_of_getElem? hx)
      simp only [pJ, d1, cond_true, aV d2, aV e2, d3, e3, d4, dK]
      rw [aV (fun _ => d2), aV (fun _ => e2), aV (fun _ => d2), aV (fun _ => e2), zN x.Row y.Row (by omega)]
      obtain ⟨x1, x2, x3⟩ := x
      obtain ⟨y1, y2, y3⟩ := y
      by_cases h1 : x2 = y2 <;> by_cases h2 : x3 = y3 <;> by_cases h3 : x1 = y1 <;> simp [h1, h2, h3]
    · simp only [pJ, dP, cond_false]
  · rw [PN he, cond_true]
    have : f ≠ g := fun h => he (by rw [h])
    simp [this]

end Go.Abs
namespace Go.Abs
theorem XM : @dD = @mP aC _ := rfl

theorem VC : @dM = @dQ aC _ := rfl

theorem OK (cmp) : ∀ k, @gH cmp k = @dV aC _ cmp k
  | 0 => rfl
  | k + 1 => by
    show dM cmp _ = dQ cmp _
    rw [OK cmp k, VC]

theorem XB : @dZ = @nR aC _ := by
  funext d a m b cmp
  unfold dZ nR
  simp only [OK]

theorem QC : @eR = @wN aC _ := by
  funext d n cmp
  unfold eR wN iA yM
  unfold gO lF eN yS
  unfold iE yR gS iY
  unfold hU uS gP lH
  unfold eM vB
  rw [XB, XM]
  rfl

end Go.Abs
namespace Go.Abs
open Go
theorem FD {l : List aC} {f : aC → Option Bool} {g : aC → Bool} (hl : l.length ≤ 1099511627776) (hf : ∀ x ∈ l, f x = some (g x)) : cL l f = some (l.any g) := by
  unfold cL fE eX
  obtain ⟨x, e, hx⟩ := DM hl hf l 0 rfl (Nat.zero_le _)
  have e' : lp (fun s => eW f l (l.length : Nat) s) 0 = some x := e
  rw [e']
  rcases hx with ⟨rfl, h⟩ | ⟨i, rfl, _, _, h, _⟩
  · simp [dI, h]
  · simp [h]

def unE (e : aC) : Bool := ((!gK e.Row) || (decide ((1048576 : Int) < e.Net))) || (decide (e.Net < (-1048576 : Int)))

def FV (e : aC) : Bool := (decide (e.At < (-1 : Int))) || (decide ((1125899906842624 : Int) < e.At))

def UZ (x y : aC) : Int := if dS x.Row y.Row ≠ 0 then dS x.Row y.Row else mC x.At y.At

abbrev okE (x : aC) : Prop := gK x.Row = true

abbrev leE (x y : aC) : Prop := dS x.Row y.Row < 0 ∨ (x.Row = y.Row ∧ x.At ≤ y.At)

theorem or_eq (a b : Int) : tL [a, b] = some (if a ≠ 0 then a else b) := by
  unfold tL vQ
  have w1 : IntKind.i64.wrap (1 : Int) = 1 := by rw [fC] <;> omega
  have w2 : IntKind.i64.wrap (2 : Int) = 2 := by rw [fC] <;> omega
  have b0 : (fun s => gI 0 [a, b] (([a, b] : List Int).length : Nat) s) (0 : Int) = some (if a ≠ 0 then .inr (.inr a) else .inl 1) := by
    show gI _ _ _ _ = _
    unfold gI
    rw [aV ⟨by omega, by simp⟩]
    by_cases h : a = 0 <;> simp [h, w1]
  have b1 : (fun s => gI 0 [a, b] (([a, b] : List Int).length : Nat) s) (1 : Int) = some (if b ≠ 0 then .inr (.inr b) else .inl 2) := by
    show gI _ _ _ _ = _
    unfold gI
    rw [aV ⟨by omega, by simp⟩]
    by_cases h : b = 0 <;> simp [h, w2]
  have b2 : (fun s => gI 0 [a, b] (([a, b] : List Int).length : Nat) s) (2 : Int) = some (.inr (.inl ())) := by
    show gI _ _ _ _ = _
    unfold gI
    simp
  by_cases h : a = 0
  · rw [if_neg (by simp [h])] at b0
    rw [eD b0]
    by_cases h2 : b = 0
    · rw [if_neg (by simp [h2])] at b1
      rw [eD b1, cI b2]
      simp [rD, h, h2]
    · rw [if_pos h2] at b1
      rw [cI b1]
      simp [h]
  · rw [if_pos h] at b0
    rw [cI b0]
    simp [h]

theorem aAM {x y : aC} (hx : okE x) (hy : okE y) : lY x y = some (UZ x y) := by
  unfold lY UZ
  rw [LW, hx, hy]
  simp only [Bool.and_self, if_true, Option.bind_some, LR, or_eq]

theorem aAI (x y : aC) : UZ x y < 0 ↔ ¬ leE y x := by
  unfold UZ leE
  have ha := kA.anti x.Row y.Row
  have hb := kA.anti y.Row x.Row
  have he := kA.eq x.Row y.Row
  by_cases h : dS x.Row y.Row = 0
  · rw [if_neg (by simp [h])]
    have e := he.1 h
    have : ¬ dS y.Row x.Row < 0 := by rw [e]; exact tM
    unfold mC
    constructor
    · intro h1 h2
      rcases h2 with h2 | ⟨_, h2⟩
      · exact this h2
      · split at h1
        · omega
        · split at h1 <;> omega
    · intro h1
      have : ¬ y.At ≤ x.At := fun h2 => h1 (.inr ⟨e.symm, h2⟩)
      rw [if_pos (by omega)]; omega
  · rw [if_pos h]
    have hne : y.Row ≠ x.Row := fun e => h (he.2 e.symm)
    constructor
    · intro h1 h2
      rcases h2 with h2 | ⟨h2, _⟩
      · have := hb.1 h2; omega
      · exact hne h2
    · intro h1
      have : ¬ dS y.Row x.Row < 0 := fun h2 => h1 (.inl h2)
      rw [hb] at this
      omega

theorem YC (x y : aC) : leE x y ∨ leE y x := by
  unfold leE
  by_cases h : dS x.Row y.Row = 0
  · have e := (kA.eq _ _).1 h
    rcases Int.le_total x.At y.At with h1 | h1
    · exact .inl (.inr ⟨e, h1⟩)
    · exact .inr (.inr ⟨e.symm, h1⟩)
  · by_cases h1 : dS x.Row y.Row < 0
    · exact .inl (.inl h1)
    · exact .inr (.inl ((kA.anti _ _).2 (by omega)))

theorem XK {x y z : aC} (h1 : leE x y) (h2 : leE y z) : leE x z := by
  rcases h1 with h1 | ⟨e1, h1⟩ <;> rcases h2 with h2 | ⟨e2, h2⟩
  · exact .inl (kA.trans _ _ _ h1 h2)
  · exact .inl (e2 ▸ h1)
  · exact .inl (e1.symm ▸ h2)
  · exact .inr ⟨e1.trans e2, by omega⟩

theorem aBB : Cmp okE leE (fun y0 y1 => lY y0 y1) where
  ans x y hx hy := ⟨_, aAM hx hy, aAI x y⟩
  trans x y z _ _ _ h1 h2 := XK h1 h2
  total x y _ _ := YC x y

theorem aBA {l : List aC} (hl : l.length ≤ 1099511627776) (ho : ∀ e ∈ l, okE e) : ∃ r, r.Perm l ∧ Srt leE r ∧ cT l (fun y0 y1 => lY y0 y1) = some r := by
  obtain ⟨r, r1, r2, r3⟩ := MX aBB (d := l) ho hl
  refine ⟨r, r1, r2, ?_⟩
  unfold cT
  rw [QC, r3]; rfl

theorem QT : ∀ {l : List aC} {r : List aF} {f : List aB}, Srt leE l → (∀ e ∈ l, e.Row = r ∨ dS r e.Row < 0) → uP (gA r f l) ∧ ∀ g ∈ gA r f l, g.1 = r ∨ dS r g.1 < 0
  | [], r, f, _, _ => by simp [gA]
  | e :: l, r, f, hs, hr => by
    have hs' := List.pairwise_cons.1 hs
    rw [TU]
    by_cases h : e.Row = r
    · rw [if_pos h]
      exact QT hs'.2 (fun x hx => hr x (by simp [hx]))
    · rw [if_neg h]
      have hlt : dS r e.Row < 0 := (hr e (by simp)).resolve_left h
      obtain ⟨h1, h2⟩ := QT (r := e.Row) (f := [jE e]) hs'.2 (fun x hx => by
        rcases hs'.1 x hx with h | ⟨h, _⟩
        · exact .inr h
        · exact .inl h.symm)
      have key : ∀ g ∈ gA e.Row [jE e] l, dS r g.1 < 0 := fun g hg => by
        rcases h2 g hg with h | h
        · rw [h]; exact hlt
        · exact kA.trans _ _ _ hlt h
      refine ⟨List.pairwise_cons.2 ⟨key, h1⟩, ?_⟩
      intro g hg
      rcases List.mem_cons.1 hg with rfl | hg
      · exact .inl rfl
      · exact .inr (key g hg)

theorem uB {l : List aC} (hs : Srt leE l) : uP (groups l) := by
  cases l with
  | nil => exact List.Pairwise.nil
  | cons e l =>
    have hs' := List.pairwise_cons.1 hs
    exact (QT hs'.2 (fun x hx => by
      rcases hs'.1 x hx with h | ⟨h, _⟩
      · exact .inr h
      · exact .inl h.symm)).1

abbrev GM (rs : List (List aF)) : Prop := rs.Pairwise fun a b => dS a b < 0

def pX (r : List aF) : List (List aF) → List (List aF)
  | [] => [r]
  | x :: xs => if dS x r < 0 then x :: pX r xs else if x = r then x :: xs else r :: x :: xs

def rowsOf (l : List aC) : List (List aF) := l.foldl (fun rs e => pX e.Row rs) []

theorem DX {r x : List aF} : ∀ {rs : List (List aF)}, x ∈ pX r rs ↔ x = r ∨ x ∈ rs
  | [] => by simp [pX]
  | y :: ys => by
    unfold pX
    split
    · simp only [List.mem_cons, DX (rs := ys)]
      constructor
      · rintro (h | h | h)
        · exact .inr (.inl h)
        · exact .inl h
        · exact .inr (.inr h)
      · rintro (h | h | h)
        · exact .inr (.inl h)
        · exact .inl h
        · exact .inr (.inr h)
    · split
      · rename_i h; subst h; simp
      · simp

theorem PG {r : List aF} : ∀ {rs : List (List aF)}, GM rs → GM (pX r rs)
  | [], _ => by simp [pX]
  | y :: ys, hs => by
    have hs' := List.pairwise_cons.1 hs
    unfold pX
    split
    · rename_i h
      refine List.pairwise_cons.2 ⟨fun z hz => ?_, PG hs'.2⟩
      rcases DX.1 hz with rfl | hz
      · exact h
      · exact hs'.1 z hz
    · rename_i h
      split
      · exact hs
      · rename_i hne
        have hlt : dS r y < 0 := by
          have h0 : dS y r ≠ 0 := fun e => hne ((kA.eq _ _).1 e)
          exact (kA.anti _ _).2 (by omega)
        refine List.pairwise_cons.2 ⟨fun z hz => ?_, hs⟩
        rcases List.mem_cons.1 hz with rfl | hz
        · exact hlt
        · exact kA.trans _ _ _ hlt (hs'.1 z hz)

theorem GC : ∀ (l : List aC) (rs : List (List aF)), GM rs → GM (l.foldl (fun rs e => pX e.Row rs) rs) ∧ ∀ x, x ∈ l.foldl (fun rs e => pX e.Row rs) rs ↔ x ∈ rs ∨ ∃ e ∈ l, e.Row = x
  | [], rs, hs => ⟨hs, by simp⟩
  | e :: l, rs, hs => by
    obtain ⟨h1, h2⟩ := GC l (pX e.Row rs) (PG hs)
    refine ⟨h1, fun x => ?_⟩
    simp only [List.foldl_cons]
    rw [h2 x, DX]
    simp only [List.mem_cons, exists_eq_or_imp]
    constructor
    · rintro ((h | h) | h)
      · exact .inr (.inl h.symm)
      · exact .inl h
      · exact .inr (.inr h)
    · rintro (h | h | h)
      · exact .inl (.inr h)
      · exact .inl (.inl h.symm)
      · exact .inr h

theorem AE (l : List aC) : GM (rowsOf l) := (GC l [] List.Pairwise.nil).1

theorem pO {l : List aC} {x : List aF} : x ∈ rowsOf l ↔ ∃ e ∈ l, e.Row = x := by
  have := (GC l [] List.Pairwise.nil).2 x
  simpa [rowsOf] using this

theorem JB : ∀ {a b : List (List aF)}, GM a → GM b → (∀ x, x ∈ a ↔ x ∈ b) → a = b
  | [], [], _, _, _ => rfl
  | [], y :: ys, _, _, h => absurd ((h y).2 (by simp)) (by simp)
  | x :: xs, [], _, _, h => absurd ((h x).1 (by simp)) (by simp)
  | x :: xs, y :: ys, ha, hb, h => by
    have ha' := List.pairwise_cons.1 ha
    have hb' := List.pairwise_cons.1 hb
    have e : x = y := by
      rcases List.mem_cons.1 ((h x).1 (by simp)) with h1 | h1
      · exact h1
      · rcases List.mem_cons.1 ((h y).2 (by simp)) with h2 | h2
        · exact h2.symm
        · exact absurd (kA.trans _ _ _ (hb'.1 x h1) (ha'.1 y h2)) tM
    subst e
    rw [JB ha'.2 hb'.2 fun z => ?_]
    constructor
    · intro hz
      rcases List.mem_cons.1 ((h z).1 (by simp [hz])) with h1 | h1
      · subst h1; exact absurd (ha'.1 z hz) tM
      · exact h1
    · intro hz
      rcases List.mem_cons.1 ((h z).2 (by simp [hz])) with h1 | h1
      · subst h1; exact absurd (hb'.1 z hz) tM
      · exact h1

def uN (l : List aC) : List (List aF × List aB) := (rowsOf l).map fun r => (r, bO l r)

theorem RK (l : List aC) : uP (uN l) := by
  rw [uP, uN, List.pairwise_map]; exact AE l

theorem HW {l : List aC} {r : List aF} (h : ∀ e ∈ l, e.Row ≠ r) : bO l r = [] := by
  unfold bO
  rw [List.map_eq_nil_iff, List.filter_eq_nil_iff]
  intro e he
  simpa using h e he

theorem FI (l : List aC) (r : List aF) : look (uN l) r = bO l r := by
  rcases zY (uN l) r with ⟨h1, h2⟩ | ⟨g, hg, h1, h2⟩
  · rw [h1, HW]
    intro e he hr
    have : (r, bO l r) ∈ uN l := List.mem_map.2 ⟨r, pO.2 ⟨e, he, hr⟩, rfl⟩
    exact h2 _ this rfl
  · rw [h2]
    obtain ⟨q, _, rfl⟩ := List.mem_map.1 hg
    simp only at h1
    rw [h1]

theorem PL {a b : List aC} (h : a.Perm b) (r : List aF) : (bO a r).Perm (bO b r) := (h.filter _).map _

theorem SQ {l l' : List aC} (hp : l'.Perm l) (hs : Srt leE l') : (groups l').map (·.1) = rowsOf l := by
  refine JB ?_ (AE l) fun x => ?_
  · rw [GM, List.pairwise_map]; exact uB hs
  · rw [pO]
    constructor
    · intro h
      obtain ⟨g, hg, rfl⟩ := List.mem_map.1 h
      obtain ⟨_, e, he, h1⟩ := EM hg
      exact ⟨e, hp.mem_iff.1 he, h1.symm⟩
    · rintro ⟨e, he, rfl⟩
      have he' : e ∈ flat (groups l') := by rw [yT]; exact hp.mem_iff.2 he
      obtain ⟨g, hg, h1⟩ := List.mem_flatMap.1 he'
      obtain ⟨j, _, rfl⟩ := List.mem_map.1 h1
      exact List.mem_map.2 ⟨g, hg, rfl⟩

theorem PW {l : List aB} (ht : ∀ j ∈ l, -2 < j.At) : Up (-2) (vK l) :=
  BC (by rw [List.map_map]; simpa [Function.comp_def] using FL ht)

theorem MV {l : List aB} (ht : ∀ j ∈ l, -2 < j.At) {t : Int} (h1 : -2 < t) (h2 : t < 1125899906842624) : val (vK l) t = val l t := by
  have h0 : val l (-2) = 0 := zI fun j hj => ht j hj
  have := CF (F := val l) (FL ht) (fun s t' _ hst hlt hn => zC hst fun j hj hc => hn j.At (IX.2 (Or.inr ⟨j, List.mem_filter.2 ⟨hj, by simp; omega⟩, rfl⟩)) hc) t (by omega) h2
  rw [h0] at this
  unfold vK
  rw [this]; omega

theorem VP {f g : List aB} (h : f.Perm g) (hf : f.any zU = false) : vK f = vK g := by
  have hg : ∀ j ∈ g, -2 < j.At := fun j hj => (BE hf j (h.mem_iff.2 hj)).1
  exact IG (fun j hj => (BE hf j hj).1) (PW hg) fun t h1 h2 => by rw [MV hg h1 h2, PO h]

theorem IL {f g : List aB} (h : f.Perm g) (p : aB → Bool) : f.any p = g.any p := by
  cases h1 : g.any p
  · rw [List.any_eq_false] at h1 ⊢
    exact fun x hx => h1 x (h.mem_iff.1 hx)
  · obtain ⟨x, hx, hp⟩ := List.any_eq_true.1 h1
    exact List.any_eq_true.2 ⟨x, h.mem_iff.2 hx, hp⟩

theorem VA {f g : List aB} (h : f.Perm g) : gL f = gL g := by
  unfold gL
  rw [IL h sS, IL h zU]
  split
  · rfl
  · split
    · rfl
    · rename_i h2
      rw [VP h (by rw [IL h zU]; simpa using h2)]

theorem ME (l : List aB) : (gL l).1.length ≤ 1024 := by
  unfold gL
  split
  · simp
  · split
    · simp
    · exact QK _

theorem KE {by1 : List aB → List aB × Int} : ∀ {gs hs : List (List aF × List aB)} {out : List aC}, gs.map (fun g => (g.1, by1 g.2)) = hs.map (fun g => (g.1, by1 g.2)) → lC by1 gs out = lC by1 hs out
  | [], [], _, _ => rfl
  | [], _ :: _, _, h => by simp at h
  | _ :: _, [], _, h => by simp at h
  | g :: gs, k :: hs, out, h => by
    simp only [List.map_cons, List.cons.injEq, Prod.mk.injEq] at h
    obtain ⟨⟨h1, h2⟩, h3⟩ := h
    unfold lC
    rw [h1, h2]
    split
    · rfl
    · split
      · rfl
      · exact KE h3

theorem SS {l l' : List aC} (hp : l'.Perm l) (hs : Srt leE l') : (groups l').map (fun g => (g.1, gL g.2)) = (uN l).map (fun g => (g.1, gL g.2)) := by
  have h1 : (groups l').map (fun g => (g.1, gL g.2)) = ((groups l').map (·.1)).map (fun r => (r, gL (bO l r))) := by
    rw [List.map_map]
    apply List.map_congr_left
    intro g hg
    have hj : g.2 = bO l' g.1 := by rw [← qU (uB hs), ER (uB hs) hg]
    simp only [Function.comp]
    rw [hj, VA (PL hp g.1)]
  rw [h1, SQ hp hs, uN, List.map_map]
  rfl

def kI (l : List aC) : List aC × Int := if l.any unE then ([], 2) else if l.any FV then ([], 13) else lC gL (uN l) []

theorem TE {l : List aC} (h : l.any unE = false) : ∀ e ∈ l, gK e.Row = true ∧ e.Net ≤ 1048576 ∧ -1048576 ≤ e.Net := by
  intro e he
  have := List.any_eq_false.1 h e he
  simp only [unE, Bool.or_eq_true, not_or, Bool.not_eq_true', decide_eq_true_eq, Bool.not_eq_false, Bool.not_eq_true] at this
  exact ⟨by simpa using this.1.1, by omega, by omega⟩

theorem ZJ {l : List aC} (hl : okL l) (hn : l.length ≤ 1099511627776) : uU l = some (kI l) := by
  unfold uU kI
  rw [FD (g := unE) hn (fun x _ => by simp [rG, HE, unE])]
  simp only [Option.bind_some]
  cases h1 : l.any unE
  · rw [FD (f := fun y0 => rC y0) (g := FV) hn (fun x _ => rfl)]
    simp only [cond_false, Option.bind_some, Bool.false_eq_true, if_false]
    cases h2 : l.any FV
    · simp only [cond_false, Bool.false_eq_true, if_false]
      have hc : eO l = some l := by unfold eO; exact aV ⟨by omega, by omega⟩
      obtain ⟨r, r1, r2, r3⟩ := aBA hn (fun e he => (TE h1 e he).1)
      rw [hc]
      simp only [Option.bind_some]
      rw [r3]
      simp only [Option.bind_some]
      have hr : okL r := ⟨by rw [r1.length_eq]; exact hl.1, fun e he => hl.2 e (r1.mem_iff.1 he)⟩
      rw [XR hr (by1 := gL) (fun g hg => ⟨by
        unfold rW
        have hgl : g.2.length ≤ 1099511627776 := by
          have h3 : g.2 = bO r g.1 := by rw [← qU (uB r2), ER (uB r2) hg]
          rw [h3, bO, List.length_map]
          exact Nat.le_trans (List.length_filter_le _ _) (by rw [r1.length_eq]; exact hn)
        rw [norm_eq hgl]; rfl, ME _, XU hr hg⟩)]
      simp only [Option.bind_some]
      rw [KE (SS r1 r2)]
    · simp
  · simp

theorem WV : gL [] = ([], 0) := rfl

theorem DV {l : List aC} (h : (kI l).2 = 0) : l.any unE = false ∧ l.any FV = false ∧ (∀ g ∈ uN l, (gL g.2).2 = 0) ∧ (kI l).1 = flat (GN gL (uN l)) ∧ (kI l).1.length ≤ 4096 := by
  unfold kI at h ⊢
  cases h1 : l.any unE
  · rw [h1] at h
    simp only [Bool.false_eq_true, if_false] at h ⊢
    cases h2 : l.any FV
    · rw [h2] at h
      simp only [Bool.false_eq_true, if_false] at h ⊢
      obtain ⟨a, b, c⟩ := TI (by simp) h
      exact ⟨trivial, trivial, a, by simpa using b, c⟩
    · rw [h2] at h; simp at h
  · rw [h1] at h; simp at h

theorem UK {l : List aC} (h : (kI l).2 = 0) (r : List aF) : look (groups (kI l).1) r = (gL (bO l r)).1 := by
  obtain ⟨_, _, _, h4, _⟩ := DV h
  rw [h4, WQ (QW (RK l)), MN (by rw [WV]), FI]

theorem IV {f : List aB} (h : (gL f).2 = 0) : f.any sS = false ∧ f.any zU = false ∧ iJ (vK f) = true ∧ gL f = (vK f, 0) := by
  unfold gL at h ⊢
  cases h1 : f.any sS
  · rw [h1] at h
    simp only [Bool.false_eq_true, if_false] at h ⊢
    cases h2 : f.any zU
    · rw [h2] at h
      simp only [Bool.false_eq_true, if_false] at h ⊢
      unfold told at h ⊢
      cases h3 : iJ (vK f)
      · rw [h3] at h; simp at h
      · simp
    · rw [h2] at h; simp at h
  · rw [h1] at h; simp at h

theorem MU {l : List aC} (h : (kI l).2 = 0) (r : List aF) : (gL (bO l r)).2 = 0 := by
  obtain ⟨_, _, h3, _, _⟩ := DV h
  rcases zY (uN l) r with ⟨e, _⟩ | ⟨g, hg, _, e⟩
  · rw [FI] at e; rw [e]; rfl
  · rw [FI] at e; rw [e]; exact h3 g hg

theorem LU {l : List aC} (h : (kI l).2 = 0) : mD (kI l).1 = true := by
  obtain ⟨h1, _, h3, h4, h5⟩ := DV h
  rw [h4] at h5 ⊢
  refine XL (QW (RK l)) (fun g hg => ?_) h5
  obtain ⟨q, hq, rfl⟩ := List.mem_map.1 hg
  have h6 := IV (h3 q hq)
  obtain ⟨r, hr, rfl⟩ := List.mem_map.1 hq
  obtain ⟨e, he, rfl⟩ := pO.1 hr
  exact ⟨(TE h1 e he).1, by rw [h6.2.2.2]; exact h6.2.2.1⟩

theorem UO {l : List aC} (h : (kI l).2 ≠ 0) : (kI l).1 = [] := by
  unfold kI at h ⊢
  split
  · rfl
  · rename_i h1
    rw [if_neg h1] at h
    split
    · rfl
    · rename_i h2
      rw [if_neg h2] at h
      exact OB h

end Go.Abs
namespace Go.Abs
open Go
def vL : aF := ⟨1, 1, ByteArray.empty⟩

theorem aBp {l : List aC} (h : l.length ≤ 4096) (hr : ∀ e ∈ l, e.Row.length ≤ 8) : okL l := ⟨by omega, fun e he => by have := hr e he; omega⟩

end Go.Abs
namespace Go.Abs
open Go
theorem DI : okL [] := ⟨by simp, by simp⟩

theorem ZG {gs : List (List aF × List aB)} (h : ∀ g ∈ gs, g.1.length ≤ 4398046510976) (hl : (flat gs).length ≤ 4096) : okL (flat gs) := by
  refine ⟨by omega, fun e he => ?_⟩
  obtain ⟨g, hg, h1⟩ := List.mem_flatMap.1 he
  obtain ⟨j, _, rfl⟩ := List.mem_map.1 h1
  exact h g hg

theorem XE {l : List aC} (hl : okL l) : okL (kI l).1 := by
  by_cases h : (kI l).2 = 0
  · obtain ⟨_, _, _, h4, h5⟩ := DV h
    rw [h4] at h5 ⊢
    refine ZG (fun g hg => ?_) h5
    obtain ⟨q, hq, rfl⟩ := List.mem_map.1 hg
    obtain ⟨r, hr, rfl⟩ := List.mem_map.1 hq
    obtain ⟨e, he, rfl⟩ := pO.1 hr
    exact hl.2 e he
  · rw [UO h]; exact DI

end Go.Abs
namespace Go.Abs
open Go
theorem aBq {l : List aC} (m : ∀ a ∈ l, uX a) (y : List.length l * 40 ≤ 140737488351232) : okL l :=
  ⟨by omega, fun e he => by have := (m e he).1.2; omega⟩

end Go.Abs
namespace Go.Abs
open Go
theorem XG {out : List aC} {r : List aF} {f : List aB} (hr : r.length ≤ 4398046510976) (hl : out.length + f.length ≤ 1099511627776) : uR out r f = some (out ++ dJ r f) := by
  unfold uR xX
  rw [mK (l := f) (body := fun s : List aC × Int => nA r f s.1 s.2) (fun o i => (o, i)) (fun o t => o ++ dJ r t) (fun o t => o.length + t.length ≤ 1099511627776) out ?_ ?_ hl]
  · rfl
  · intro i a t o ha hi
    left
    obtain ⟨d1, d2, d3, d4⟩ := idx ha (by have := (List.getElem?_eq_some_iff.1 ha).1; omega)
    simp only [List.length_cons] at hi
    refine ⟨o ++ [⟨r, a.At, a.Net⟩], ?_, by simp; omega, by simp [dJ]⟩
    show nA _ _ _ _ = _
    simp only [nA, d1, cond_true, aV d2, d3, d4]
    rw [aV ⟨by omega, by omega⟩]
    exact aV (by simp only [List.length_cons, List.length_nil]; omega)
  · intro o _
    show nA _ _ _ _ = _
    simp only [nA, dP, cond_false]
    simp [dJ]

theorem ML (r : List aF) (f : List aB) : (dJ r f).length = f.length := by simp [dJ]

theorem AG {l : List aC} (hm : mD l = true) {e : aC} (he : e ∈ l) : gK e.Row = true ∧ -2 < e.At ∧ e.At < 1125899906842624 ∧ e.Net ≠ 0 ∧ e.Net ≤ 1048576 ∧ -1048576 ≤ e.Net := by
  obtain ⟨_, h2, _⟩ := wQ hm
  have he' : e ∈ flat (groups l) := by rw [yT]; exact he
  obtain ⟨g, hg, h1⟩ := List.mem_flatMap.1 he'
  obtain ⟨j, hj, rfl⟩ := List.mem_map.1 h1
  obtain ⟨a, b⟩ := h2 g hg
  exact ⟨a, (nX.1 b).2.above j hj⟩

theorem uJ {l : List aC} (hm : mD l = true) (r : List aF) : iJ (bO l r) = true := by
  rw [← qU (wQ hm).2.2]; exact XS hm r

theorem XZ {f : List aB} (h : ∀ j ∈ f, j.Net ≤ 1048576 ∧ -1048576 ≤ j.Net) : f.any sS = false :=
  List.any_eq_false.2 fun j hj => by have := h j hj; simp [sS, zW]; omega

theorem aAr {f : List aB} (h : ∀ j ∈ f, -2 < j.At ∧ j.At ≤ 1125899906842624) : f.any zU = false :=
  List.any_eq_false.2 fun j hj => by have := h j hj; simp [zU]; omega

end Go.Abs
namespace Go.Abs
open Go
theorem CQ {l : List aC} (hl : okL l) (hn : l.length ≤ 1099511627776) {r : List aF} : nG l r = some (bO l r) := by
  unfold nG uC
  rw [mK (l := l) (body := fun s : List aB × Int => lA l r s.1 s.2) (fun o i => (o, i)) (fun o t => o ++ bO t r) (fun o t => o.length + t.length ≤ 1099511627776) [] ?_ ?_ (by simpa using hn)]
  · rfl
  · intro i a t o ha hi
    left
    obtain ⟨d1, d2, d3, d4⟩ := idx ha (by omega)
    simp only [List.length_cons] at hi
    have hr := hl.2 a (List.mem_of_getElem? ha)
    have hb : lA l r o (i : Int) = some (.inl (if a.Row = r then o ++ [jE a] else o, ((i + 1 : Nat) : Int))) := by
      simp only [lA, qL, d1, cond_true, aV d2, d3, d4, zN a.Row r (by omega), Option.bind_some]
      by_cases e : a.Row = r
      · simp only [e, decide_true, cond_true, if_true]
        rw [aV (by simp only [List.length_cons, List.length_nil]; omega)]; rfl
      · simp [e]
    refine ⟨_, hb, ?_, ?_⟩
    · split
      · simp; omega
      · omega
    · by_cases e : a.Row = r <;> simp [bO, e]
  · intro o _
    show lA _ _ _ _ = _
    simp only [lA, dP, cond_false]
    simp [bO]

theorem IJ (r : List aF) : ∀ rs : List (List aF), (pX r rs).length ≤ rs.length + 1
  | [] => by simp [pX]
  | x :: xs => by
    unfold pX
    split
    · simp only [List.length_cons]; have := IJ r xs; omega
    · split <;> simp

def uM (r : List aF) : List (List aF) → Nat
  | [] => 0
  | x :: xs => if dS x r < 0 then uM r xs + 1 else 0

theorem TH (r : List aF) : ∀ rs, uM r rs ≤ rs.length
  | [] => by simp [uM]
  | x :: xs => by unfold uM; split <;> simp [TH r xs]

theorem OX (r : List aF) : ∀ rs, pX r rs = if rs[uM r rs]? = some r then rs else rs.take (uM r rs) ++ [r] ++ rs.drop (uM r rs)
  | [] => by simp [pX]
  | x :: xs => by
    unfold pX uM
    by_cases h : dS x r < 0
    · rw [if_pos h, if_pos h, OX r xs]
      simp only [List.getElem?_cons_succ, List.take_succ_cons, List.drop_succ_cons]
      split <;> simp
    · rw [if_neg h, if_neg h]
      by_cases e : x = r <;> simp [e]

theorem KA {l : List aC} {rs : List (List aF)} {e : aC} {i : Nat} (hi : l[i]? = some e) (hl : okL l) (he : gK e.Row = true) (hr : ∀ x ∈ rs, gK x = true) (hn : rs.length ≤ 1099511627776) : ∀ (t : List (List aF)) (k : Nat), rs.drop k = t → k ≤ rs.length →
    lp (fun s : List (List aF) × Int => kP l (i : Int) s.1 s.2) (rs, (k : Int)) = some (rs, ((k + uM e.Row t : Nat) : Int))
  | [], k, hd, hk => by
    have : k = rs.length := by
      have := congrArg List.length hd
      simp only [List.length_drop, List.length_nil] at this; omega
    subst this
    refine cI ?_
    show kP _ _ _ _ = _
    simp only [kP, dP, dK, cond_false, Option.bind_some, Bool.false_and]
    rw [aV (fun h => by cases h), aV (fun h => by cases h)]
    simp [uM]
  | x :: t, k, hd, hk => by
    obtain ⟨h1, h2⟩ := drop_cons hd
    have hlt := (List.getElem?_eq_some_iff.1 h1).1
    obtain ⟨d1, d2, d3, d4⟩ := idx h1 (by omega)
    obtain ⟨_, c2, c3, _⟩ := idx hi (by have := hl.1; omega)
    have hx := hr x (List.mem_of_getElem? h1)
    have hb : (fun s : List (List aF) × Int => kP l (i : Int) s.1 s.2) (rs, (k : Int)) = some (if dS x e.Row < 0 then .inl (rs, ((k + 1 : Nat) : Int)) else .inr (rs, (k : Int))) := by
      show kP _ _ _ _ = _
      simp only [kP, d1, dK, cond_true, d3, c3, d4, Bool.true_and]
      rw [aV (fun _ => d2), aV (fun _ => c2), GB x e.Row (by have := (wP hx).1; omega) (by have := (wP he).1; omega), hx, he]
      simp only [Bool.and_self, if_true, Option.bind_some]
      by_cases h : dS x e.Row < 0 <;> simp [h]
    unfold uM
    by_cases h : dS x e.Row < 0
    · rw [if_pos h] at hb
      rw [eD hb, KA hi hl he hr hn t (k + 1) h2 (by omega), if_pos h]
      congr 3; omega
    · rw [if_neg h] at hb
      rw [cI hb, if_neg h]; rfl

theorem EC {l : List aC} (hl : okL l) (hm : ∀ e ∈ l, gK e.Row = true) (hn : l.length ≤ 1099511627776) : oG l = some (rowsOf l) := by
  unfold oG vW
  rw [mK (l := l) (body := fun s : List (List aF) × Int => mA l s.1 s.2) (fun o i => (o, i)) (fun o t => t.foldl (fun rs e => pX e.Row rs) o) (fun o t => o.length + t.length ≤ 1099511627776 ∧ ∀ x ∈ o, gK x = true) [] ?_ ?_ ⟨by simpa using hn, by simp⟩]
  · rfl
  · rintro i e t rs hi ⟨h1, h2⟩
    left
    obtain ⟨d1, d2, d3, d4⟩ := idx hi (by omega)
    have he := hm e (List.mem_of_getElem? hi)
    simp only [List.length_cons] at h1
    refine ⟨pX e.Row rs, ?_, ⟨by have := IJ e.Row rs; omega, fun x hx => by
      rcases DX.1 hx with rfl | h
      · exact he
      · exact h2 x h⟩, rfl⟩
    show mA _ _ _ = _
    have hin := KA hi hl he h2 (by omega) rs 0 rfl (Nat.zero_le _)
    simp only [Int.natCast_zero, Nat.zero_add] at hin
    have hple := TH e.Row rs
    simp only [mA, d1, cond_true, vM, hin, Option.bind_some, rK, rQ, d3, d4]
    rw [OX]
    by_cases hp : uM e.Row rs < rs.length
    · have hx : rs[uM e.Row rs]? = some rs[uM e.Row rs] := List.getElem?_eq_getElem hp
      obtain ⟨f1, f2, f3, _⟩ := idx hx (by omega)
      have hrow := h2 _ (List.mem_of_getElem? hx)
      simp only [f1, f3, dK, cond_true, Bool.true_and]
      rw [aV (fun _ => f2), aV (fun _ => d2), zN _ _ (by have := (wP hrow).1; omega)]
      by_cases hq : rs[uM e.Row rs] = e.Row
      · simp [hq, hx]
      · simp only [hq, decide_false, cond_false, Option.bind_some, hx, Option.some.injEq, if_false, Int.toNat_natCast]
        rw [aV ⟨by omega, by omega⟩, aV ⟨by simp; omega, by simp; omega⟩, aV d2, aV ⟨by simp; omega, by simp; omega⟩, aV ⟨by omega, by omega⟩, aV ⟨by simp; omega, by simp; omega⟩]
    · have hpe : uM e.Row rs = rs.length := by omega
      rw [hpe]
      simp only [dP, dK, cond_false, Option.bind_some, Bool.false_and]
      rw [aV (fun h => by cases h), aV (fun h => by cases h)]
      have hnone : rs[rs.length]? = none := by simp
      simp only [hnone, reduceCtorEq, if_false, Int.toNat_natCast]
      rw [aV ⟨by omega, by omega⟩, aV ⟨by simp; omega, by simp; omega⟩, aV d2, aV ⟨by simp; omega, by simp; omega⟩, aV ⟨by omega, by omega⟩, aV ⟨by simp; omega, by simp; omega⟩]
  · rintro rs ⟨_, _⟩
    show mA _ _ _ = _
    simp only [mA, dP, cond_false]
    rfl

theorem FB : ∀ (l : List aC) (rs : List (List aF)), (l.foldl (fun rs e => pX e.Row rs) rs).length ≤ rs.length + l.length
  | [], rs => by simp
  | e :: l, rs => by
    have := FB l (pX e.Row rs)
    have := IJ e.Row rs
    simp only [List.foldl_cons, List.length_cons]; omega

theorem zX (l : List aC) : (rowsOf l).length ≤ l.length := by
  have := FB l []
  simpa [rowsOf] using this

end Go.Abs
namespace Go.Abs
open Go
def sL (by1 : List aB → List aB × Int) : List (List aF × List aB) → List aC → List aC × Int
  | [], out => (out, 0)
  | g :: gs, out => if (by1 g.2).2 ≠ 0 then ([], (by1 g.2).2) else sL by1 gs (out ++ dJ g.1 (by1 g.2).1)

def EE (x : List aC × Int) : List aC × Int := if x.2 = 0 ∧ 4096 < x.1.length then ([], 7) else x

theorem PX {by1 : List aB → List aB × Int} : ∀ {gs : List (List aF × List aB)} {out : List aC}, (∀ g ∈ gs, (by1 g.2).2 = 0 ∨ (by1 g.2).2 = 7) → 4096 < out.length → EE (sL by1 gs out) = ([], 7)
  | [], out, _, h => by simp [sL, EE, h]
  | g :: gs, out, he, h => by
    unfold sL
    rcases he g (by simp) with e | e
    · rw [if_neg (by simp [e])]
      exact PX (fun q hq => he q (by simp [hq])) (by rw [List.length_append]; omega)
    · rw [if_pos (by simp [e]), e]; simp [EE]

theorem TJ {by1 : List aB → List aB × Int} : ∀ {gs : List (List aF × List aB)} {out : List aC}, (∀ g ∈ gs, (by1 g.2).2 = 0 ∨ (by1 g.2).2 = 7) → out.length ≤ 4096 → EE (sL by1 gs out) = lC by1 gs out
  | [], out, _, h => by
    have : ¬ 4096 < out.length := by omega
    simp [sL, EE, lC, this]
  | g :: gs, out, he, h => by
    unfold sL lC
    rcases he g (by simp) with e | e
    · rw [if_neg (by simp [e]), if_neg (by simp [e])]
      by_cases hl : 4096 < (out ++ dJ g.1 (by1 g.2).1).length
      · rw [if_pos hl]; exact PX (fun q hq => he q (by simp [hq])) hl
      · rw [if_neg hl]; exact TJ (fun q hq => he q (by simp [hq])) (by omega)
    · rw [if_pos (by simp [e]), if_pos (by simp [e]), e]; simp [EE]

theorem aAm {by1 : List aB → List aB × Int} {J : List aF → List aB} {rs : List (List aF)} {body : List aC × Int → Option ((List aC × Int) ⊕ (List aC ⊕ (List aC × Int)))} (h1 : ∀ f, (by1 f).1.length ≤ 1024) (hn : rs.length ≤ 1000000)
    (hb : ∀ (i : Nat) r out, rs[i]? = some r → out.length ≤ 1024000000 → body (out, (i : Int)) = some (if (by1 (J r)).2 ≠ 0 then .inr (.inr ([], (by1 (J r)).2)) else .inl (out ++ dJ r (by1 (J r)).1, ((i + 1 : Nat) : Int))))
    (he : ∀ out, body (out, (rs.length : Nat)) = some (.inr (.inl out))) : ∃ x, lp body ([], 0) = some x ∧ Sum.elim (fun o => (o, (0 : Int))) id x = sL by1 (rs.map fun r => (r, J r)) [] ∧ (∀ o, x = .inl o → o.length ≤ 1024000000) ∧ ∀ o, x = .inr o → o.2 ≠ 0 := by
  refine ⟨_, mK (l := rs) (body := body) (fun o i => (o, i)) (fun o t => if (sL by1 (t.map fun r => (r, J r)) o).2 = 0 then .inl (sL by1 (t.map fun r => (r, J r)) o).1 else .inr (sL by1 (t.map fun r => (r, J r)) o)) (fun o t => o.length + 1024 * t.length ≤ 1024000000) [] ?_ ?_ (by simp; omega), ?_, ?_, ?_⟩
  · intro i r t o hi hl
    simp only [List.length_cons] at hl
    have := hb i r o hi (by omega)
    have h2 := h1 (J r)
    by_cases e : (by1 (J r)).2 ≠ 0
    · right
      rw [if_pos e] at this
      rw [this]
      simp only [List.map_cons, sL, if_pos e, if_neg e]
    · left
      rw [if_neg e] at this
      refine ⟨_, this, by rw [List.length_append, ML]; omega, ?_⟩
      simp only [List.map_cons, sL, if_neg e]
  · intro o _
    rw [he o]
    simp [sL]
  · cases h : (sL by1 (rs.map fun r => (r, J r)) []) with
    | mk a b =>
      by_cases e : b = 0
      · simp [e]
      · simp [e]
  · intro o ho
    have key : ∀ (gs : List (List aF)) (out : List aC), out.length + 1024 * gs.length ≤ 1024000000 → (sL by1 (gs.map fun r => (r, J r)) out).1.length ≤ 1024000000 := by
      intro gs
      induction gs with
      | nil => intro out h; simpa [sL] using h
      | cons r gs ih =>
        intro out h
        simp only [List.map_cons, sL]
        split
        · simp
        · refine ih _ ?_
          have := h1 (J r)
          simp only [List.length_cons] at h
          rw [List.length_append, ML]; omega
    split at ho
    · simp only [Sum.inl.injEq] at ho
      rw [← ho]; exact key rs [] (by simp; omega)
    · cases ho
  · intro o ho
    split at ho
    · cases ho
    · rename_i h
      simp only [Sum.inr.injEq] at ho
      rw [← ho]; exact h

theorem aBG {j : List aC → Option (List aC × Int)} {y : List aC × Int} {x : List aC ⊕ (List aC × Int)} (hj : ∀ o : List aC, o.length ≤ 1024000000 → j o = some (if 4096 < o.length then ([], 7) else (o, 0))) (hx : Sum.elim (fun o => (o, (0 : Int))) id x = y) (hl : ∀ o, x = .inl o → o.length ≤ 1024000000) (hy : ∀ o, x = .inr o → o.2 ≠ 0) : Sum.elim (fun o => j o) (fun rr : List aC × Int => some (rr.1, rr.2)) x = some (EE y) := by
  cases x with
  | inl o =>
    simp only [Sum.elim_inl] at hx ⊢
    rw [hj o (hl o rfl), ← hx]
    unfold EE
    by_cases h : 4096 < o.length <;> simp [h]
  | inr o =>
    simp only [Sum.elim_inr, id] at hx ⊢
    subst hx
    have := hy o rfl
    simp [EE, this]

end Go.Abs
namespace Go.Abs
open Go
abbrev ltE (x y : aC) : Prop := dS x.Row y.Row < 0 ∨ (x.Row = y.Row ∧ x.At < y.At)

theorem WY {x y z : aC} (h1 : ltE x y) (h2 : ltE y z) : ltE x z := by
  rcases h1 with h1 | ⟨h1, h1'⟩ <;> rcases h2 with h2 | ⟨h2, h2'⟩
  · exact .inl (kA.trans _ _ _ h1 h2)
  · exact .inl (h2 ▸ h1)
  · exact .inl (h1 ▸ h2)
  · exact .inr ⟨h1.trans h2, by omega⟩

theorem BP : ∀ {f : List aB} {last : Int}, tG last f ↔ (∀ j ∈ f, oN last j = false) ∧ f.Pairwise fun a b => a.At < b.At
  | [], last => by simp [tG]
  | j :: f, last => by
    rw [List.pairwise_cons]
    unfold tG
    rw [← kQ]
    constructor
    · rintro ⟨h1, h2⟩
      have h3 := BP.1 h2
      have h4 := kQ.1 h1
      refine ⟨fun k hk => ?_, fun k hk => (kQ.1 (h3.1 k hk)).1, h3.2⟩
      rcases List.mem_cons.1 hk with rfl | hk
      · exact h1
      · have := kQ.1 (h3.1 k hk)
        exact kQ.2 (by omega)
    · rintro ⟨h1, h2, h3⟩
      refine ⟨h1 j (by simp), BP.2 ⟨fun k hk => ?_, h3⟩⟩
      have := kQ.1 (h1 k (by simp [hk]))
      have := h2 k hk
      exact kQ.2 (by omega)

theorem yE {l : List aC} : mD l = true ↔ l.length ≤ 4096 ∧ (∀ e ∈ l, gK e.Row = true ∧ oN (-2) (jE e) = false) ∧ l.Pairwise ltE ∧ ∀ r ∈ rowsOf l, (bO l r).length ≤ 1024 := by
  constructor
  · intro h
    obtain ⟨h1, h2, h3⟩ := wQ h
    refine ⟨h1, fun e he => ?_, ?_, fun r _ => (nX.1 (uJ h r)).1⟩
    · obtain ⟨a, b, c, d, e1, e2⟩ := AG h he
      exact ⟨a, kQ.2 ⟨b, c, d, e1, e2⟩⟩
    · rw [← yT l]
      unfold flat
      rw [List.flatMap, List.pairwise_flatten, List.pairwise_map]
      constructor
      · intro x hx
        obtain ⟨g, hg, rfl⟩ := List.mem_map.1 hx
        have := (BP.1 (nX.1 (h2 g hg).2).2).2
        rw [dJ, List.pairwise_map]
        exact this.imp fun h => .inr ⟨rfl, h⟩
      · refine h3.imp fun {a b} h x hx y hy => ?_
        obtain ⟨j, _, rfl⟩ := List.mem_map.1 hx
        obtain ⟨k, _, rfl⟩ := List.mem_map.1 hy
        exact .inl h
  · rintro ⟨h1, h2, h3, h4⟩
    have hs : Srt leE l := h3.imp fun h => by
      rcases h with h | ⟨h, h'⟩
      · exact .inl h
      · exact .inr ⟨h, by omega⟩
    have hg := uB hs
    unfold mD
    rw [Bool.and_eq_true]
    refine ⟨by simpa using h1, tQ.2 ⟨fun g hg' => ?_, hg, fun q hq => by cases hq⟩⟩
    obtain ⟨_, e, he, h5⟩ := EM hg'
    have hj : g.2 = bO l g.1 := by rw [← qU hg, ER hg hg']
    refine ⟨by rw [h5]; exact (h2 e he).1, ?_⟩
    rw [hj]
    refine nX.2 ⟨h4 _ (pO.2 ⟨e, he, h5.symm⟩), BP.2 ⟨fun j hj => ?_, ?_⟩⟩
    · obtain ⟨e, he, rfl⟩ := List.mem_map.1 hj
      exact (h2 e (List.mem_filter.1 he).1).2
    · unfold bO
      rw [List.pairwise_map, List.pairwise_filter]
      refine h3.imp fun {a b} h ha hb => ?_
      rcases h with h | ⟨_, h⟩
      · simp only [decide_eq_true_eq] at ha hb
        rw [ha, hb] at h
        exact absurd h tM
      · exact h

theorem YY {α : Type} {R : α → α → Prop} (ht : ∀ {x y z}, R x y → R y z → R x z) {l : List α} : l.Pairwise R ↔ ∀ (i : Nat) (a b : α), l[i]? = some a → l[i + 1]? = some b → R a b := by
  constructor
  · intro h i a b ha hb
    obtain ⟨h1, rfl⟩ := List.getElem?_eq_some_iff.1 ha
    obtain ⟨h2, rfl⟩ := List.getElem?_eq_some_iff.1 hb
    exact List.pairwise_iff_getElem.1 h i (i + 1) h1 h2 (by omega)
  · intro h
    refine List.pairwise_iff_getElem.2 fun i j hi hj hij => ?_
    obtain ⟨k, rfl⟩ : ∃ k, j = i + 1 + k := ⟨j - i - 1, by omega⟩
    clear hij
    induction k with
    | zero => exact h i _ _ (List.getElem?_eq_getElem hi) (List.getElem?_eq_getElem hj)
    | succ k ih => exact ht (ih (by omega)) (h (i + 1 + k) _ _ (List.getElem?_eq_getElem (by omega)) (List.getElem?_eq_getElem hj))

def LM (a b : List aF) : Int := if gK a && gK b then dS a b else 0

def BY (l : List aC) (i : Nat) : Bool := !(gK (l.getD i default).Row && !oN (-2) (jE (l.getD i default))) || (decide (i ≠ 0) && (decide (0 < LM (l.getD (i - 1) default).Row (l.getD i default).Row) || (decide (LM (l.getD (i - 1) default).Row (l.getD i default).Row = 0) && decide ((l.getD i default).At ≤ (l.getD (i - 1) default).At))))

theorem MQ {l : List aC} : (List.range l.length).any (BY l) = false ↔ (∀ e ∈ l, gK e.Row = true ∧ oN (-2) (jE e) = false) ∧ l.Pairwise ltE := by
  rw [List.any_eq_false, YY (R := ltE) (fun h1 h2 => WY h1 h2)]
  constructor
  · intro h
    have h' : ∀ i, i < l.length → BY l i = false := fun i hi => by simpa using h i (List.mem_range.2 hi)
    refine ⟨fun e he => ?_, fun i a b ha hb => ?_⟩
    · obtain ⟨i, hi, rfl⟩ := List.mem_iff_getElem.1 he
      have := h' i hi
      unfold BY at this
      rw [Bool.or_eq_false_iff] at this
      have h1 := this.1
      simp only [List.getD_eq_getElem?_getD, List.getElem?_eq_getElem hi, Option.getD_some, Bool.not_eq_false', Bool.and_eq_true, Bool.not_eq_true'] at h1
      exact h1
    · obtain ⟨hi, rfl⟩ := List.getElem?_eq_some_iff.1 ha
      obtain ⟨hj, rfl⟩ := List.getElem?_eq_some_iff.1 hb
      have := h' (i + 1) hj
      have r1 := h' i hi
      unfold BY at this r1
      rw [Bool.or_eq_false_iff] at this r1
      have h1 := this.2
      have r2 := this.1
      have r1 := r1.1
      simp only [List.getD_eq_getElem?_getD, List.getElem?_eq_getElem hi, List.getElem?_eq_getElem hj, Option.getD_some, Bool.not_eq_false', Bool.and_eq_true, Bool.not_eq_true'] at r1 r2
      simp only [List.getD_eq_getElem?_getD, Nat.add_sub_cancel, List.getElem?_eq_getElem hi, List.getElem?_eq_getElem hj, Option.getD_some, ne_eq, Nat.add_eq_zero_iff, Nat.one_ne_zero, and_false, not_false_eq_true, decide_true, Bool.true_and, Bool.or_eq_false_iff, decide_eq_false_iff_not, Bool.and_eq_false_iff, LM, r1.1, r2.1, Bool.and_self, if_true] at h1
      by_cases hc : dS l[i].Row l[i + 1].Row = 0
      · refine .inr ⟨(kA.eq _ _).1 hc, ?_⟩
        rcases h1.2 with h | h
        · exact absurd hc h
        · omega
      · exact .inl (by omega)
  · rintro ⟨h1, h2⟩ i hi
    have hi := List.mem_range.1 hi
    unfold BY
    have ge : l.getD i default = l[i] := by simp [List.getD_eq_getElem?_getD, hi]
    have := h1 l[i] (List.getElem_mem hi)
    rw [ge, this.1, this.2]
    by_cases h0 : i = 0
    · simp [h0]
    · have hi' : i - 1 < l.length := by omega
      have ge' : l.getD (i - 1) default = l[i - 1] := by simp [List.getD_eq_getElem?_getD, hi']
      have h3 := h2 (i - 1) l[i - 1] l[i] (List.getElem?_eq_getElem hi') (by rw [show i - 1 + 1 = i by omega]; exact List.getElem?_eq_getElem hi)
      rw [ge']
      have r1 := (h1 l[i - 1] (List.getElem_mem hi')).1
      unfold LM
      rw [r1, this.1]
      rcases h3 with h3 | ⟨h3, h4⟩
      · have a : ¬ 0 < dS l[i - 1].Row l[i].Row := by omega
        have b : ¬ dS l[i - 1].Row l[i].Row = 0 := by omega
        simp [a, b]
      · have a : dS l[i - 1].Row l[i].Row = 0 := (kA.eq _ _).2 h3
        have b : ¬ l[i].At ≤ l[i - 1].At := by omega
        simp [a, b]

theorem JG {l : List aC} (hl : okL l) : sI l = some (mD l) := by
  unfold sI
  by_cases hn : l.length ≤ 4096
  · have h1 : decide ((4096 : Int) < ((l.length : Nat) : Int)) = false := by simp; omega
    rw [h1, cond_false]
    unfold wZ
    have hlp := JY (body := fun s => mT l s) (l := List.range l.length) (fun i => i) (BY l) (.inr false) (.inl ()) ?_ ?_
    · rw [hlp]
      cases hb : (List.range l.length).any (BY l)
      · obtain ⟨h2, h3⟩ := MQ.1 hb
        have hr := EC hl (fun e he => (h2 e he).1) (by omega)
        simp only [Bool.false_eq_true, if_false, Option.bind_some, Sum.elim_inl, tC, hr, xB]
        have hrl := zX l
        rw [JY (l := rowsOf l) (fun i => i) (fun r => decide (1024 < (bO l r).length)) (.inr false) (.inl ()) ?_ ?_]
        · cases hc : (rowsOf l).any fun r => decide (1024 < (bO l r).length)
          · have : mD l = true := yE.2 ⟨hn, h2, h3, fun r hr => by
              have := List.any_eq_false.1 hc r hr
              simp only [decide_eq_true_eq] at this; omega⟩
            rw [this]; rfl
          · have : mD l = false := by
              rw [Bool.eq_false_iff]
              intro hm
              obtain ⟨r, hr, h4⟩ := List.any_eq_true.1 hc
              have := (yE.1 hm).2.2.2 r hr
              simp only [decide_eq_true_eq] at h4; omega
            rw [this]; rfl
        · intro i r hi
          obtain ⟨d1, d2, d3, d4⟩ := idx hi (by omega)
          show oL _ _ _ = _
          simp only [oL, d1, cond_true, aV d2, d3, d4, CQ hl (show l.length ≤ 1099511627776 by omega), Option.bind_some]
          by_cases h : 1024 < (bO l r).length
          · have h' : (1024 : Int) < (((bO l r).length : Nat) : Int) := by omega
            simp [h, h']
          · have h' : ¬ (1024 : Int) < (((bO l r).length : Nat) : Int) := by omega
            simp [h, h']
        · show oL _ _ _ = _
          simp only [oL, dP, cond_false]
      · have : mD l = false := by
          rw [Bool.eq_false_iff]
          intro hm
          obtain ⟨_, h2, h3, _⟩ := yE.1 hm
          have := MQ.2 ⟨h2, h3⟩
          rw [this] at hb; cases hb
        rw [this]; rfl
    · intro i k hi
      obtain ⟨hi0, hk⟩ := List.getElem?_eq_some_iff.1 hi
      rw [List.getElem_range] at hk
      subst hk
      have hi1 : i < l.length := by simpa using hi0
      have hx := List.getElem?_eq_getElem hi1
      obtain ⟨d1, d2, d3, d4⟩ := idx hx (by omega)
      have hr := hl.2 _ (List.getElem_mem hi1)
      have ge : l.getD i default = l[i] := by simp [List.getD_eq_getElem?_getD, hi1]
      show mT _ _ = _
      simp only [mT, d1, cond_true, aV d2, d3, EN l[i].Row (by omega), Option.bind_some]
      rw [aV (fun _ => d2), aV (fun _ => d2)]
      have hm : nU [⟨l[i].At, l[i].Net⟩] = some (!oN (-2) (jE l[i])) := by
        rw [GV]
        simp only [iJ, chk, List.length_cons, List.length_nil, jE]
        cases oN (-2) ⟨l[i].At, l[i].Net⟩ <;> rfl
      rw [hm]
      unfold BY
      rw [ge]
      cases h2 : gK l[i].Row
      · simp [dK]
      · cases h3 : oN (-2) (jE l[i])
        · simp only [dK, Bool.not_true, Bool.not_false, cond_true, Option.bind_some, Bool.or_self, cond_false, Bool.and_self]
          by_cases h0 : i = 0
          · subst h0
            simp [qI, fC]
          · have hi' : i - 1 < l.length := by omega
            have hw : IntKind.i64.wrap ((i : Int) - 1) = ((i - 1 : Nat) : Int) := by rw [fC (by omega) (by omega)]; omega
            have hx' := List.getElem?_eq_getElem hi'
            obtain ⟨_, e2, e3, _⟩ := idx hx' (by omega)
            have ge' : l.getD (i - 1) default = l[i - 1] := by simp [List.getD_eq_getElem?_getD, hi']
            have hr' := hl.2 _ (List.getElem_mem hi')
            have hz : decide ((i : Int) = 0) = false := by simp; omega
            simp only [hz, cond_false, hw, aV e2, aV d2, e3, d3, ge']
            rw [GB _ _ (by omega) (by omega), show (if (gK l[i - 1].Row && gK l[i].Row) = true then dS l[i - 1].Row l[i].Row else 0) = LM l[i - 1].Row l[i].Row from rfl]
            simp only [Option.bind_some, qI, d4]
            rw [aV (fun _ => e2), aV (fun _ => d2)]
            generalize LM l[i - 1].Row l[i].Row = c
            cases hz2 : (decide (0 < c) || (decide (c = 0) && decide (l[i].At ≤ l[i - 1].At)))
            · simp
            · simp [h0]
        · simp [dK]
    · show mT _ _ = _
      simp only [mT, List.length_range, dP, cond_false]
  · have h1 : decide ((4096 : Int) < ((l.length : Nat) : Int)) = true := by simp; omega
    rw [h1, cond_true]
    simp [mD, hn]

end Go.Abs
namespace Go.Abs
open Go
theorem UD {c : Int} : ∀ {l : List Int} {m : Int}, c ≤ l.foldl mn m ↔ c ≤ m ∧ ∀ x ∈ l, c ≤ x
  | [], m => by simp
  | a :: l, m => by
    rw [List.foldl_cons, UD]
    unfold mn
    constructor
    · rintro ⟨h1, h2⟩
      have h3 : c ≤ m ∧ c ≤ a := by split at h1 <;> omega
      refine ⟨h3.1, fun x hx => ?_⟩
      rcases List.mem_cons.1 hx with rfl | hx
      · exact h3.2
      · exact h2 x hx
    · rintro ⟨h1, h2⟩
      have := h2 a (by simp)
      exact ⟨by split <;> omega, fun x hx => h2 x (by simp [hx])⟩

theorem MA {t : Int} : ∀ {f : List aB} {l v : Int}, tG l f → v + val f t = v ∨ v + val f t ∈ parts v f
  | [], l, v, _ => .inl (by simp [val])
  | j :: r, l, v, h => by
    unfold parts
    rw [cQ]
    by_cases e : j.At ≤ t
    · rw [if_pos e]
      right
      rcases MA (t := t) (v := v + j.Net) h.2 with h1 | h1
      · rw [show v + (j.Net + val r t) = v + j.Net by omega]; simp
      · rw [show v + (j.Net + val r t) = v + j.Net + val r t by omega]; exact List.mem_cons_of_mem _ h1
    · left
      rw [if_neg e, h.2.yJ (by omega)]; omega

theorem BS {f : List aB} (hf : iJ f = true) : 0 ≤ sV f ↔ ∀ t, 0 ≤ val f t := by
  have hr := (nX.1 hf).2
  unfold sV
  rw [UD]
  constructor
  · rintro ⟨_, h2⟩ t
    rcases MA (t := t) (v := 0) hr with h | h
    · omega
    · rw [parts_eq hr] at h
      obtain ⟨j, hj, h⟩ := List.mem_map.1 h
      have := h2 _ (List.mem_map.2 ⟨j, hj, rfl⟩)
      omega
  · intro h
    refine ⟨h _, fun x hx => ?_⟩
    obtain ⟨j, _, rfl⟩ := List.mem_map.1 hx
    exact h _

theorem AI {l : List aC} : oM l = true ↔ mD l = true ∧ ∀ r t, 0 ≤ val (bO l r) t := by
  constructor
  · intro h
    unfold oM at h
    rw [Bool.and_eq_true, tQ] at h
    obtain ⟨h1, h2, h3, _⟩ := h
    have hm : mD l = true := by
      unfold mD
      rw [Bool.and_eq_true]
      exact ⟨h1, tQ.2 ⟨fun g hg => ⟨(h2 g hg).1, by have := (h2 g hg).2; unfold LO at this; rw [Bool.and_eq_true] at this; exact this.1⟩, h3, fun q hq => by cases hq⟩⟩
    refine ⟨hm, fun r => ?_⟩
    rw [← qU h3]
    rcases zY (groups l) r with ⟨e, _⟩ | ⟨g, hg, _, e⟩
    · rw [e]; intro t; simp [val]
    · rw [e]
      have := (h2 g hg).2
      unfold LO at this
      rw [Bool.and_eq_true, decide_eq_true_eq] at this
      exact (BS this.1).1 this.2
  · rintro ⟨hm, h⟩
    obtain ⟨h1, h2, h3⟩ := wQ hm
    unfold oM
    rw [Bool.and_eq_true]
    refine ⟨by simpa using h1, tQ.2 ⟨fun g hg => ⟨(h2 g hg).1, ?_⟩, h3, fun q hq => by cases hq⟩⟩
    unfold LO
    rw [Bool.and_eq_true, decide_eq_true_eq]
    refine ⟨(h2 g hg).2, (BS (h2 g hg).2).2 ?_⟩
    have : g.2 = bO l g.1 := by rw [← qU h3, ER h3 hg]
    rw [this]; exact h g.1

theorem PC {l : List aC} {r : List aF} (h : r ∉ rowsOf l) : bO l r = [] :=
  HW fun e he hr => h (pO.2 ⟨e, he, hr⟩)

theorem OE {l : List aC} (hl : okL l) : rH l = some (oM l) := by
  unfold rH
  rw [JG hl]
  cases hm : mD l
  · have : oM l = false := by
      rw [Bool.eq_false_iff]; intro h
      rw [(AI.1 h).1] at hm; cases hm
    rw [this]; rfl
  · obtain ⟨h1, h2, _⟩ := yE.1 hm
    simp only [Option.bind_some, Bool.not_true, cond_false, EC hl (fun e he => (h2 e he).1) (show l.length ≤ 1099511627776 by omega), uH]
    have hrl := zX l
    rw [JY (l := rowsOf l) (fun i => i) (fun r => decide (sV (bO l r) < 0)) (.inr false) (.inl ()) ?_ ?_]
    · cases hc : (rowsOf l).any fun r => decide (sV (bO l r) < 0)
      · have : oM l = true := AI.2 ⟨hm, fun r => by
          by_cases hr : r ∈ rowsOf l
          · have := List.any_eq_false.1 hc r hr
            simp only [decide_eq_true_eq] at this
            exact (BS (uJ hm r)).1 (by omega)
          · rw [PC hr]; intro t; simp [val]⟩
        rw [this]; rfl
      · have : oM l = false := by
          rw [Bool.eq_false_iff]; intro h
          obtain ⟨r, _, hr⟩ := List.any_eq_true.1 hc
          simp only [decide_eq_true_eq] at hr
          have := (BS (uJ hm r)).2 ((AI.1 h).2 r)
          omega
        rw [this]; rfl
    · intro i r hi
      obtain ⟨d1, d2, d3, d4⟩ := idx hi (by omega)
      show mI _ _ _ = _
      simp only [mI, d1, cond_true, aV d2, d3, d4, CQ hl (show l.length ≤ 1099511627776 by omega), Option.bind_some, RW, uJ hm r, if_true]
      by_cases h : sV (bO l r) < 0 <;> simp [h]
    · show mI _ _ _ = _
      simp only [mI, dP, cond_false]

theorem XJ {f : List aB} (hu : Up (-2) f) (h : ∀ t, -2 < t → t < 1125899906842624 → 0 ≤ val f t) : ∀ t, 0 ≤ val f t := by
  intro t
  by_cases h1 : -2 < t
  · by_cases h2 : t < 1125899906842624
    · exact h t h1 h2
    · have := zC (s := 1125899906842623) (t := t) (by omega) (f := f) (fun j hj => by have := (hu.above j hj); omega)
      rw [← this]; exact h _ (by omega) (by omega)
  · rw [hu.yJ (by omega)]; omega

theorem RS {l : List aC} (h : (kI l).2 = 0) (r : List aF) : bO (kI l).1 r = vK (bO l r) := by
  rw [← qU (wQ (LU h)).2.2, UK h, (IV (MU h r)).2.2.2]

theorem FM {l : List aC} (h : (kI l).2 = 0) (r : List aF) : ∀ j ∈ bO l r, -2 < j.At :=
  fun j hj => (BE (IV (MU h r)).2.1 j hj).1

theorem TB {l : List aC} (h : (kI l).2 = 0) (hv : ∀ r t, -2 < t → t < 1125899906842624 → 0 ≤ val (bO l r) t) : oM (kI l).1 = true := by
  refine AI.2 ⟨LU h, fun r => ?_⟩
  rw [RS h]
  refine XJ (PW (FM h r)) fun t h1 h2 => ?_
  rw [MV (FM h r) h1 h2]; exact hv r t h1 h2

end Go.Abs
namespace Go.Abs
open Go
def uK (d t : Int) : Int := if 1125899906842624 < t + d then 1125899906842624 else t + d

def pY (d frm : Int) (l : List aC) : List aC := l.flatMap fun x => if 0 < x.Net ∧ frm ≤ x.At then [x, ⟨x.Row, uK d x.At, -x.Net⟩] else []

def nM (d frm : Int) (f : List aB) : List aB := f.flatMap fun x => if 0 < x.Net ∧ frm ≤ x.At then [x, ⟨uK d x.At, -x.Net⟩] else []

theorem EP (d frm : Int) (x : aC) (l : List aC) : pY d frm (x :: l) = (if 0 < x.Net ∧ frm ≤ x.At then [x, ⟨x.Row, uK d x.At, -x.Net⟩] else []) ++ pY d frm l := by simp [pY]

theorem VD (d frm : Int) (x : aB) (l : List aB) : nM d frm (x :: l) = (if 0 < x.Net ∧ frm ≤ x.At then [x, ⟨uK d x.At, -x.Net⟩] else []) ++ nM d frm l := by simp [nM]

theorem RP (d frm : Int) (f g : List aB) : nM d frm (f ++ g) = nM d frm f ++ nM d frm g := by simp [nM]

theorem BJ (d frm : Int) (r : List aF) : ∀ l : List aC, bO (pY d frm l) r = nM d frm (bO l r)
  | [] => rfl
  | x :: l => by
    rw [EP, yG, BJ d frm r l]
    have hx : bO (x :: l) r = (if x.Row = r then [jE x] else []) ++ bO l r := by
      by_cases e : x.Row = r <;> simp [bO, e]
    rw [hx]
    by_cases e : x.Row = r
    · rw [if_pos e, RP]
      congr 1
      by_cases h : 0 < x.Net ∧ frm ≤ x.At
      · rw [if_pos h]
        simp [bO, e, nM, jE, h]
      · rw [if_neg h]
        simp [bO, nM, jE, h]
    · rw [if_neg e]
      by_cases h : 0 < x.Net ∧ frm ≤ x.At
      · rw [if_pos h]; simp [bO, e]
      · rw [if_neg h]; simp [bO]

def had (d frm t : Int) (f : List aB) : Int := (f.map fun j => if 0 < j.Net ∧ frm ≤ j.At ∧ j.At ≤ t ∧ t - d < j.At then j.Net else 0).sum

theorem BA (d frm t : Int) (j : aB) (f : List aB) : had d frm t (j :: f) = (if 0 < j.Net ∧ frm ≤ j.At ∧ j.At ≤ t ∧ t - d < j.At then j.Net else 0) + had d frm t f := by simp [had]

theorem DU (d frm t : Int) : ∀ f : List aB, 0 ≤ had d frm t f
  | [] => by simp [had]
  | j :: f => by
    rw [BA]
    have := DU d frm t f
    split <;> omega

theorem BB {d frm t : Int} (hd : 1 ≤ d) (ht : t < 1125899906842624) : ∀ f : List aB, val (nM d frm f) t = had d frm t f
  | [] => rfl
  | j :: f => by
    rw [VD, DR, BA, BB hd ht f]
    congr 1
    by_cases h : 0 < j.Net ∧ frm ≤ j.At
    · rw [if_pos h, cQ, cQ, sD]
      have he : uK d j.At ≤ t ↔ j.At + d ≤ t := by unfold uK; split <;> omega
      by_cases h1 : j.At ≤ t
      · by_cases h2 : j.At + d ≤ t
        · rw [if_pos h1, if_pos (he.2 h2), if_neg (by omega)]; simp only; omega
        · rw [if_pos h1, if_neg (fun h => h2 (he.1 h)), if_pos (by omega)]; omega
      · rw [if_neg h1, if_neg (fun h => by have := he.1 h; omega), if_neg (by omega)]; omega
    · rw [if_neg h, if_neg (by omega), sD]

def oR (l : List aC) (d frm : Int) : List aC × Int :=
  if (!mD l || decide (d < 1)) || decide (1099511627776 < d) then ([], 2) else if !oM l then ([], 20) else if decide (frm < 0) || decide (1125899906842624 < frm) then ([], 13) else kI (pY d frm l)

theorem FX (d frm : Int) : ∀ l : List aC, (pY d frm l).length ≤ 2 * l.length
  | [] => by simp [pY]
  | x :: l => by
    rw [EP, List.length_append, List.length_cons]
    have := FX d frm l
    split <;> simp <;> omega

theorem GI {d frm : Int} {l : List aC} {e : aC} (h : e ∈ pY d frm l) : ∃ x ∈ l, 0 < x.Net ∧ frm ≤ x.At ∧ (e = x ∨ e = ⟨x.Row, uK d x.At, -x.Net⟩) := by
  obtain ⟨x, hx, h1⟩ := List.mem_flatMap.1 h
  split at h1
  · rename_i h2
    refine ⟨x, hx, h2.1, h2.2, ?_⟩
    simpa using h1
  · simp at h1

theorem LZ {d frm : Int} {l : List aC} (hl : okL l) (h : l.length ≤ 4096) : okL (pY d frm l) :=
  ⟨by have := FX d frm l; omega, fun e he => by
    obtain ⟨x, hx, _, _, h1⟩ := GI he
    have := hl.2 x hx
    rcases h1 with rfl | rfl <;> exact this⟩

theorem KZ {l : List aC} (hl : okL l) (d frm : Int) : pP l d frm = some (oR l d frm) := by
  unfold pP oR
  rw [aAw hl]
  simp only [Option.bind_some]
  cases h1 : (!mD l || decide (d < 1)) || decide (1099511627776 < d)
  · simp only [Bool.or_eq_false_iff, Bool.not_eq_false', decide_eq_false_iff_not] at h1
    simp only [cond_false, MT hl, Option.bind_some, Bool.false_eq_true, if_false]
    cases h2 : oM l
    · simp
    · simp only [Bool.not_true, cond_false, Bool.false_eq_true, if_false]
      cases h3 : decide (frm < 0) || decide (1125899906842624 < frm)
      · simp only [Bool.or_eq_false_iff, decide_eq_false_iff_not] at h3
        simp only [cond_false, Bool.false_eq_true, if_false]
        have hn := (wQ h1.1.1).1
        rw [aV ⟨by omega, by omega, by omega⟩]
        unfold xT
        rw [mK (l := l) (body := fun s : List aC × Int => mW frm d l (l.length : Nat) s.1 s.2) (fun o i => (o, i)) (fun o t => o ++ pY d frm t) (fun o t => o.length + 2 * t.length ≤ 8192 ∧ ∀ e ∈ t, e ∈ l) [] ?_ ?_ ⟨by simp; omega, fun e he => he⟩]
        · simp only [Option.bind_some, tH, List.nil_append]
          have := FX d frm l
          rw [ZJ (LZ hl hn) (by omega)]; rfl
        · rintro i x t o hi ⟨g1, g2⟩
          left
          obtain ⟨d1, d2, d3, d4⟩ := idx hi (by omega)
          have hx := AG h1.1.1 (g2 x (by simp))
          simp only [List.length_cons] at g1
          have w1 : IntKind.i64.wrap (x.At + d) = x.At + d := fC (by omega) (by omega)
          have w2 : IntKind.i64.wrap (0 - x.Net) = -x.Net := by rw [fC (by omega) (by omega)]; omega
          have hb : mW frm d l (l.length : Nat) o (i : Int) = some (.inl (o ++ (if 0 < x.Net ∧ frm ≤ x.At then [x, ⟨x.Row, uK d x.At, -x.Net⟩] else []), ((i + 1 : Nat) : Int))) := by
            simp only [mW, tD, d1, cond_true, aV d2, d3, d4, vS, w1, w2, Option.bind_some]
            by_cases c1 : 0 < x.Net
            · by_cases c2 : frm ≤ x.At
              · simp only [c1, c2, decide_true, Bool.and_self, cond_true, and_self, if_true]
                rw [aV (by simp only [List.length_cons, List.length_nil]; omega)]; rfl
              · simp [c1, c2]
            · simp [c1]
          refine ⟨_, hb, ⟨by rw [List.length_append]; split <;> simp <;> omega, fun e he => g2 e (by simp [he])⟩, ?_⟩
          rw [EP, List.append_assoc]
        · rintro o _
          show mW _ _ _ _ _ _ = _
          simp only [mW, dP, cond_false]
          simp [pY]
      · simp
  · simp

theorem GJ {c : List aC} {x : List aF} : x ∈ rowsOf c ↔ bO c x ≠ [] := by
  rw [pO]
  constructor
  · rintro ⟨e, he, rfl⟩ hn
    have : jE e ∈ bO c e.Row := List.mem_map.2 ⟨e, List.mem_filter.2 ⟨he, by simp⟩, rfl⟩
    rw [hn] at this; simp at this
  · intro hn
    obtain ⟨j, hj⟩ := List.exists_mem_of_ne_nil _ hn
    obtain ⟨e, he, rfl⟩ := List.mem_map.1 hj
    have := List.mem_filter.1 he
    exact ⟨e, this.1, by simpa using this.2⟩

theorem GH {by1 : List aB → List aB × Int} {p : List aF × List aB → Bool} : ∀ {gs : List (List aF × List aB)} {out : List aC}, out.length ≤ 4096 → (∀ g ∈ gs, p g = false → by1 g.2 = ([], 0)) → lC by1 gs out = lC by1 (gs.filter p) out
  | [], _, _, _ => rfl
  | g :: gs, out, h, hp => by
    have st : ∀ (ks : List (List aF × List aB)), lC by1 (g :: ks) out = if (by1 g.2).2 ≠ 0 then ([], (by1 g.2).2) else if 4096 < (out ++ dJ g.1 (by1 g.2).1).length then ([], 7) else lC by1 ks (out ++ dJ g.1 (by1 g.2).1) := fun _ => rfl
    cases e : p g
    · rw [List.filter_cons_of_neg (by simp [e]), st, hp g (by simp) e]
      simp only [ne_eq, not_true_eq_false, if_false, dJ, List.map_nil, List.append_nil]
      rw [if_neg (by omega)]
      exact GH (gs := gs) h fun q hq => hp q (by simp [hq])
    · rw [List.filter_cons_of_pos e, st, st]
      split
      · rfl
      · split
        · rfl
        · exact GH (gs := gs) (by omega) fun q hq => hp q (by simp [hq])

theorem RF {by1 : List aB → List aB × Int} {h : List aB → List aB} : ∀ {gs : List (List aF × List aB)} {out : List aC}, lC by1 (gs.map fun g => (g.1, h g.2)) out = lC (fun f => by1 (h f)) gs out
  | [], _ => rfl
  | g :: gs, out => by
    simp only [List.map_cons]
    unfold lC
    split
    · rfl
    · split
      · rfl
      · exact RF

theorem XY {a l : List aC} {h : List aB → List aB} (h0 : h [] = []) (hj : ∀ r, bO a r = h (bO l r)) : lC gL (uN a) [] = lC (fun f => gL (h f)) (uN l) [] := by
  have e1 := GH (by1 := gL) (p := fun g => !g.2.isEmpty) (gs := (uN l).map fun g => (g.1, h g.2)) (out := []) (by simp) (fun g _ hp => by
    have : g.2 = [] := by simpa using hp
    rw [this]; rfl)
  rw [← RF (by1 := gL) (h := h), e1]
  congr 1
  have hr : rowsOf a = (rowsOf l).filter fun r => !(h (bO l r)).isEmpty := by
    refine JB (AE a) ((AE l).filter _) fun x => ?_
    rw [List.mem_filter, GJ, GJ, hj x]
    constructor
    · intro hn
      refine ⟨fun e => hn (by rw [e, h0]), by simpa using hn⟩
    · rintro ⟨_, h2⟩
      simpa using h2
  unfold uN
  rw [hr, List.map_map, List.filter_map]
  exact List.map_congr_left fun r _ => by simp only [Function.comp, hj r]

theorem ZR {d frm : Int} {l : List aC} (hm : mD l = true) (h0 : 0 ≤ frm) (hd : 1 ≤ d) : (pY d frm l).any unE = false ∧ (pY d frm l).any FV = false := by
  refine ⟨List.any_eq_false.2 fun e he => ?_, List.any_eq_false.2 fun e he => ?_⟩
  · obtain ⟨x, hx, h1, h2, h3⟩ := GI he
    have := AG hm hx
    rcases h3 with rfl | rfl
    · simp only [unE, this.1, Bool.not_true, Bool.false_or, Bool.or_eq_true, decide_eq_true_eq]; omega
    · simp only [unE, this.1, Bool.not_true, Bool.false_or, Bool.or_eq_true, decide_eq_true_eq]; omega
  · obtain ⟨x, hx, h1, h2, h3⟩ := GI he
    have := AG hm hx
    rcases h3 with rfl | rfl
    · simp only [FV, Bool.or_eq_true, decide_eq_true_eq]; omega
    · simp only [FV, Bool.or_eq_true, decide_eq_true_eq]
      unfold uK; split <;> omega

theorem ZM {l : List aC} {d frm : Int} (hm : mD l = true) (ht : oM l = true) (h1 : 1 ≤ d) (h2 : d ≤ 1099511627776) (h3 : 0 ≤ frm) (h4 : frm ≤ 1125899906842624) :
    oR l d frm = kI (pY d frm l) ∧ kI (pY d frm l) = lC (fun f => gL (nM d frm f)) (uN l) [] := by
  constructor
  · unfold oR
    have c1 : ((!mD l || decide (d < 1)) || decide (1099511627776 < d)) = false := by
      simp only [hm, Bool.not_true, Bool.false_or, Bool.or_eq_false_iff, decide_eq_false_iff_not]; omega
    have c2 : (decide (frm < 0) || decide (1125899906842624 < frm)) = false := by
      simp only [Bool.or_eq_false_iff, decide_eq_false_iff_not]; omega
    rw [c1, c2, ht]
    simp only [Bool.false_eq_true, if_false, Bool.not_true]
  · obtain ⟨u1, u2⟩ := ZR (d := d) hm h3 h1
    unfold kI
    rw [u1, u2]
    simp only [Bool.false_eq_true, if_false]
    exact XY rfl fun r => BJ d frm r l

end Go.Abs
namespace Go.Abs
open Go
theorem WC {f : List aB} {d frm t : Int} (hb : ∀ j ∈ f, j.Net ≤ 1048576 ∧ -1048576 ≤ j.Net) (hl : f.length ≤ 1099511627776) (hd : 1 ≤ d ∧ d ≤ 1099511627776) (ht : -2 ≤ t ∧ t ≤ 1125899906842624) : uZ f d frm t = some (had d frm t f) := by
  unfold uZ xD
  have w : IntKind.i64.wrap (t - d) = t - d := fC (by omega) (by omega)
  rw [mK (l := f) (body := fun s : Int × Int => mY f d frm t s.1 s.2) (fun v i => (v, i)) (fun v r => v + had d frm t r)
    (fun v r => (∀ j ∈ r, j.Net ≤ 1048576 ∧ -1048576 ≤ j.Net) ∧ r.length ≤ 1099511627776 ∧ v ≤ 1048576 * (1099511627776 - r.length) ∧ -(1048576 * (1099511627776 - r.length)) ≤ v) 0 ?_ ?_ ?_]
  · simp [tI]
  · rintro i a r v ha ⟨h1, h2, h3, h4⟩
    have hlt := (List.getElem?_eq_some_iff.1 ha).1
    obtain ⟨d1, d2, d3, d4⟩ := idx ha (by omega)
    have hj := h1 a (List.mem_cons_self ..)
    simp only [List.length_cons] at h2 h3 h4
    have hw : IntKind.i64.wrap (v + a.Net) = v + a.Net := fC (by omega) (by omega)
    left
    have hb' : mY f d frm t v (i : Int) = some (.inl (v + (if 0 < a.Net ∧ frm ≤ a.At ∧ a.At ≤ t ∧ t - d < a.At then a.Net else 0), ((i + 1 : Nat) : Int))) := by
      simp only [mY, tO, d1, cond_true, aV d2, d3, d4, hw, w]
      rw [aV (fun _ => d2), aV (fun _ => d2), aV (fun _ => d2)]
      by_cases c1 : 0 < a.Net <;> by_cases c2 : frm ≤ a.At <;> by_cases c3 : a.At ≤ t <;> by_cases c4 : t - d < a.At <;> simp [c1, c2, c3, c4]
    refine ⟨_, hb', ⟨fun j hj => h1 j (List.mem_cons_of_mem _ hj), by omega, by split <;> omega, by split <;> omega⟩, ?_⟩
    rw [BA]; omega
  · rintro v _
    show mY _ _ _ _ _ _ = _
    simp only [mY, dP, cond_false]
    simp [had]
  · exact ⟨hb, hl, by omega, by omega⟩

def qP (d : Int) (ps : List Int) (j : aB) : List Int := if 0 ≤ j.At then (if j.At + d < 1125899906842624 then kN (j.At + d) (kN j.At ps) else kN j.At ps) else ps

def sO (d : Int) (ps : List Int) (f : List aB) : List Int := f.foldl (qP d) ps

theorem SK {d p : Int} {ps : List Int} {j : aB} : p ∈ qP d ps j ↔ p ∈ ps ∨ (0 ≤ j.At ∧ (p = j.At ∨ (p = j.At + d ∧ j.At + d < 1125899906842624))) := by
  unfold qP
  split
  · split
    · rw [zG, zG]; constructor
      · rintro (h | h | h)
        · exact .inr ⟨by omega, .inr ⟨h, by omega⟩⟩
        · exact .inr ⟨by omega, .inl h⟩
        · exact .inl h
      · rintro (h | ⟨_, h | ⟨h, _⟩⟩)
        · exact .inr (.inr h)
        · exact .inr (.inl h)
        · exact .inl h
    · rw [zG]; constructor
      · rintro (h | h)
        · exact .inr ⟨by omega, .inl h⟩
        · exact .inl h
      · rintro (h | ⟨_, h | ⟨h, _⟩⟩)
        · exact .inr h
        · exact .inl h
        · omega
  · constructor
    · exact .inl
    · rintro (h | ⟨_, _⟩)
      · exact h
      · omega

theorem IS {d p : Int} : ∀ {f : List aB} {ps : List Int}, p ∈ sO d ps f ↔ p ∈ ps ∨ ∃ j ∈ f, 0 ≤ j.At ∧ (p = j.At ∨ (p = j.At + d ∧ j.At + d < 1125899906842624))
  | [], ps => by simp [sO]
  | j :: f, ps => by
    have := IS (d := d) (p := p) (f := f) (ps := qP d ps j)
    unfold sO at this ⊢
    rw [List.foldl_cons, this, SK]
    simp only [List.mem_cons, exists_eq_or_imp, or_assoc]

theorem HU {d : Int} (hd : 1 ≤ d) {ps : List Int} {j : aB} (h : Inc (-2) ps) (hj : j.At < 1125899906842624) : Inc (-2) (qP d ps j) := by
  unfold qP
  split
  · split
    · exact wK (wK h (by omega) hj) (by omega) (by omega)
    · exact wK h (by omega) hj
  · exact h

theorem IW {d : Int} (hd : 1 ≤ d) : ∀ {f : List aB} {ps : List Int}, Inc (-2) ps → (∀ j ∈ f, j.At < 1125899906842624) → Inc (-2) (sO d ps f)
  | [], _, h, _ => h
  | j :: f, ps, h, hf => IW hd (f := f) (HU hd h (hf j (by simp))) fun k hk => hf k (by simp [hk])

theorem HR {d : Int} {ps : List Int} {j : aB} : (qP d ps j).length ≤ ps.length + 2 := by
  unfold qP
  have h1 := CJ (t := j.At) (ps := ps)
  have h2 := CJ (t := j.At + d) (ps := kN j.At ps)
  split
  · split <;> omega
  · omega

theorem PV {d : Int} : ∀ {f : List aB} {ps : List Int}, (sO d ps f).length ≤ ps.length + 2 * f.length
  | [], ps => by simp [sO]
  | j :: f, ps => by
    have := PV (d := d) (f := f) (ps := qP d ps j)
    have h2 := HR (d := d) (ps := ps) (j := j)
    simp only [List.length_cons]
    unfold sO at this ⊢
    rw [List.foldl_cons]; omega

theorem CK {d frm : Int} {f : List aB} {j : aB} (h : j ∈ nM d frm f) : ∃ x ∈ f, 0 < x.Net ∧ frm ≤ x.At ∧ (j = x ∨ j = ⟨uK d x.At, -x.Net⟩) := by
  obtain ⟨x, hx, h1⟩ := List.mem_flatMap.1 h
  split at h1
  · rename_i h2
    exact ⟨x, hx, h2.1, h2.2, by simpa using h1⟩
  · simp at h1

theorem QF {d frm t : Int} (h : t < frm) : ∀ f : List aB, had d frm t f = 0
  | [] => rfl
  | j :: f => by rw [BA, if_neg (by omega), QF h f]; rfl

theorem WM {f : List aB} {d frm : Int} (hf : iJ f = true) (hd : 1 ≤ d) (h0 : 0 ≤ frm) : vK (nM d frm f) = nK 0 ((sO d [] f).map fun p => (p, had d frm p f)) := by
  have hp := EJ hf
  have hinc : Inc (-2) (sO d [] f) := IW hd trivial fun j hj => (hp j hj).2
  have hz : had d frm (-2) f = 0 := QF (by omega) f
  refine IG (fun j hj => ?_) (BC (by rw [List.map_map]; simpa [Function.comp_def] using hinc)) fun t h1 h2 => ?_
  · obtain ⟨x, hx, _, h3, h4⟩ := CK hj
    rcases h4 with rfl | rfl
    · omega
    · simp only; unfold uK; split <;> omega
  · rw [BB hd h2]
    have := CF (F := fun p => had d frm p f) (ps := sO d [] f) (last := -2) hinc (fun s t' hs hst ht' hn => ?_) t (by omega) h2
    · simp only [hz] at this
      rw [this]; omega
    · show had d frm s f = had d frm t' f
      rw [← BB hd (by omega), ← BB hd ht']
      refine zC hst fun j hj hc => ?_
      obtain ⟨x, hx, _, h3, h4⟩ := CK hj
      rcases h4 with rfl | rfl
      · exact hn _ (IS.2 (.inr ⟨j, hx, by omega, .inl rfl⟩)) hc
      · simp only at hc
        by_cases hF : x.At + d < 1125899906842624
        · have he : uK d x.At = x.At + d := by unfold uK; rw [if_neg (by omega)]
          rw [he] at hc
          exact hn _ (IS.2 (.inr ⟨x, hx, by omega, .inr ⟨rfl, hF⟩⟩)) hc
        · have he : uK d x.At = 1125899906842624 := by unfold uK; split <;> omega
          omega

theorem YE {f : List aB} {d frm t : Int} (hb : ∀ j ∈ f, j.Net ≤ 1048576) : had d frm t f ≤ 1048576 * f.length := by
  induction f with
  | nil => simp [had]
  | cons j f ih =>
    rw [BA, List.length_cons]
    have := ih fun k hk => hb k (by simp [hk])
    have := hb j (by simp)
    split <;> omega

theorem KN {f : List aB} {d frm : Int} (hf : iJ f = true) (hd : 1 ≤ d) (h0 : 0 ≤ frm) : gL (nM d frm f) = told (nK 0 ((sO d [] f).map fun p => (p, had d frm p f))) := by
  unfold gL
  have hp := EJ hf
  have hn := AT hf
  rw [if_neg, if_neg, WM hf hd h0]
  · rw [Bool.not_eq_true]
    refine aAr fun j hj => ?_
    obtain ⟨x, hx, _, h3, h4⟩ := CK hj
    have := hp x hx
    rcases h4 with rfl | rfl
    · omega
    · simp only; unfold uK; split <;> omega
  · rw [Bool.not_eq_true]
    refine XZ fun j hj => ?_
    obtain ⟨x, hx, h2, h3, h4⟩ := CK hj
    have := hn x hx
    rcases h4 with rfl | rfl
    · exact this
    · simp only; omega

theorem SV {l : List aC} (hl : okL l) (hm : mD l = true) {d frm : Int} (h1 : 1 ≤ d) (h2 : d ≤ 1099511627776) (h3 : 0 ≤ frm) (i : Nat) (r : List aF) (out : List aC) (hi : (rowsOf l)[i]? = some r) (ho : out.length ≤ 1024000000) :
    lU l d frm (rowsOf l) out (i : Int) = some (if (gL (nM d frm (bO l r))).2 ≠ 0 then .inr (.inr ([], (gL (nM d frm (bO l r))).2)) else .inl (out ++ dJ r (gL (nM d frm (bO l r))).1, ((i + 1 : Nat) : Int))) := by
  obtain ⟨hn, hv, _, _⟩ := yE.1 hm
  have hrl := zX l
  obtain ⟨d1, d2, d3, d4⟩ := idx hi (by omega)
  have hf := uJ hm r
  have hfl := (nX.1 hf).1
  have hp := EJ hf
  have hrow : r.length ≤ 8 := by
    obtain ⟨e, he, rfl⟩ := pO.1 (List.mem_of_getElem? hi)
    exact (wP (hv e he).1).1
  simp only [lU, d1, cond_true, aV d2, d3, CQ hl (show l.length ≤ 1099511627776 by omega), Option.bind_some, vN]
  rw [mK (l := bO l r) (body := fun s : List aC × List Int × Int => mB l d frm (rowsOf l) (i : Int) (bO l r) s.1 s.2.1 s.2.2) (fun ps k => (out, ps, k)) (fun ps t => (out, sO d ps t)) (fun ps t => Inc (-2) ps ∧ ps.length + 2 * t.length ≤ 1000000 ∧ ∀ j ∈ t, -2 < j.At ∧ j.At < 1125899906842624) [] ?_ ?_ ⟨trivial, by simp; omega, hp⟩]
  · simp only [Option.bind_some, rF, vU]
    have hpl := PV (d := d) (f := bO l r) (ps := [])
    simp only [List.length_nil] at hpl
    have hinc : Inc (-2) (sO d [] (bO l r)) := IW h1 trivial fun j hj => (hp j hj).2
    rw [mK (l := sO d [] (bO l r)) (body := fun s : List aC × List Int × Int => lW l d frm (rowsOf l) (i : Int) (bO l r) (sO d [] (bO l r)) s.1 s.2.1 s.2.2) (fun vs k => (out, vs, k)) (fun vs t => (out, vs ++ t.map fun p => had d frm p (bO l r))) (fun vs t => vs.length + t.length ≤ 1000000 ∧ ∀ p ∈ t, -2 < p ∧ p < 1125899906842624) [] ?_ ?_ ⟨by simp; omega, hinc.above⟩]
    · simp only [Option.bind_some, rI, List.nil_append]
      rw [UL (by omega) fun p _ => by
        have := DU d frm p (bO l r)
        have := YE (d := d) (frm := frm) (t := p) fun j hj => (AT hf j hj).1
        omega]
      rw [KN hf h1 h3]
      simp only [Option.bind_some]
      have htl := QK (nK 0 ((sO d [] (bO l r)).map fun p => (p, had d frm p (bO l r))))
      generalize told (nK 0 ((sO d [] (bO l r)).map fun p => (p, had d frm p (bO l r)))) = y at htl ⊢
      by_cases e : y.2 = 0
      · simp only [e, decide_true, Bool.not_true, cond_false, ne_eq, not_true_eq_false, if_false, aV d2, d3]
        rw [XG (by omega) (by omega)]
        simp only [Option.bind_some, vJ, d4]
      · simp [e]
    · rintro k p t vs hk ⟨g1, g2⟩
      left
      obtain ⟨e1, e2, e3, e4⟩ := idx hk (by omega)
      have hpp := g2 p (by simp)
      simp only [List.length_cons] at g1
      refine ⟨vs ++ [had d frm p (bO l r)], ?_, ⟨by simp; omega, fun q hq => g2 q (by simp [hq])⟩, by simp⟩
      show lW _ _ _ _ _ _ _ _ _ _ = _
      simp only [lW, e1, cond_true, aV e2, e3, e4]
      rw [WC (AT hf) (by omega) ⟨h1, h2⟩ ⟨by omega, by omega⟩]
      simp only [Option.bind_some]
      exact aV (by simp only [List.length_cons, List.length_nil]; omega)
    · rintro vs _
      show lW _ _ _ _ _ _ _ _ _ _ = _
      simp only [lW, dP, cond_false]
      simp
  · rintro k j t ps hk ⟨g1, g2, g3⟩
    left
    have hkl := (List.getElem?_eq_some_iff.1 hk).1
    obtain ⟨e1, e2, e3, e4⟩ := idx hk (by omega)
    have hj := g3 j (by simp)
    simp only [List.length_cons] at g2
    have hsl := HR (d := d) (ps := ps) (j := j)
    refine ⟨qP d ps j, ?_, ⟨HU h1 g1 hj.2, by omega, fun q hq => g3 q (by simp [hq])⟩, rfl⟩
    have w : IntKind.i64.wrap (j.At + d) = j.At + d := fC (by omega) (by omega)
    show mB _ _ _ _ _ _ _ _ _ = _
    simp only [mB, oV, e1, cond_true, aV e2, e3, e4, w]
    unfold qP
    by_cases c1 : 0 ≤ j.At
    · have i1 : Inc (-2) (kN j.At ps) := wK g1 (by omega) hj.2
      have l1 := CJ (t := j.At) (ps := ps)
      simp only [c1, decide_true, cond_true, if_true, TZ g1 (show ps.length ≤ 1099511627776 by omega), Option.bind_some, TZ i1 (show (kN j.At ps).length ≤ 1099511627776 by omega)]
      by_cases c2 : j.At + d < 1125899906842624 <;> simp [c2]
    · simp [c1]
  · rintro ps _
    show mB _ _ _ _ _ _ _ _ _ = _
    simp only [mB, dP, cond_false]
    simp [sO]

theorem VR {l : List aC} (hl : okL l) (d frm : Int) : sU l d frm = some (oR l d frm) := by
  unfold sU
  rw [JG hl]
  simp only [Option.bind_some]
  cases c1 : (!mD l || decide (d < 1)) || decide (1099511627776 < d)
  · have g := c1
    simp only [Bool.or_eq_false_iff, Bool.not_eq_false', decide_eq_false_iff_not] at g
    obtain ⟨⟨hm, g1⟩, g2⟩ := g
    simp only [cond_false, OE hl, Option.bind_some]
    cases c2 : oM l
    · unfold oR; rw [c1, c2]; rfl
    · simp only [Bool.not_true, cond_false, xL, Option.bind_some]
      cases c3 : decide (0 ≤ frm) && decide (frm ≤ 1125899906842624)
      · have c3' : (decide (frm < 0) || decide (1125899906842624 < frm)) = true := by
          rw [Bool.and_eq_false_iff] at c3
          rw [Bool.or_eq_true]
          simp only [decide_eq_false_iff_not, decide_eq_true_eq] at c3 ⊢
          omega
        unfold oR; rw [c1, c2, c3']; rfl
      · rw [Bool.and_eq_true, decide_eq_true_eq, decide_eq_true_eq] at c3
        obtain ⟨hn, hv, _, _⟩ := yE.1 hm
        have hrl := zX l
        simp only [Bool.not_true, cond_false, EC hl (fun e he => (hv e he).1) (show l.length ≤ 1099511627776 by omega), Option.bind_some, vH]
        have hR := aAm (by1 := fun f => gL (nM d frm f)) (J := bO l) (rs := rowsOf l) (body := fun s => lU l d frm (rowsOf l) s.1 s.2) (fun f => ME _) (by omega) (fun i r out hi ho => SV hl hm (by omega) (by omega) (by omega) i r out hi ho) ?_
        · obtain ⟨x, e1, e2, e3, e4⟩ := hR
          rw [e1]
          simp only [Option.bind_some]
          have hj : ∀ o : List aC, o.length ≤ 1024000000 → pE o = some (if 4096 < o.length then ([], 7) else (o, 0)) := by
            intro o _
            unfold pE
            by_cases h : 4096 < o.length
            · have h' : (4096 : Int) < ((o.length : Nat) : Int) := by omega
              simp [h, h']
            · have h' : ¬ (4096 : Int) < ((o.length : Nat) : Int) := by omega
              simp [h, h']
          obtain ⟨k1, k2⟩ := ZM (d := d) hm c2 (by omega) (by omega) c3.1 c3.2
          rw [k1, k2]
          refine (aBG hj e2 e3 e4).trans (congrArg some (TJ (fun g hg => ?_) (by simp)))
          obtain ⟨r, _, rfl⟩ := List.mem_map.1 hg
          simp only
          rw [KN (d := d) (uJ hm r) (by omega) c3.1]
          unfold told; split <;> simp
        · intro out
          show lU _ _ _ _ _ _ = _
          simp only [lU, dP, cond_false]
  · unfold oR; rw [c1]; rfl

theorem WU {l : List aC} (hl : okL l) (d frm : Int) : okL (oR l d frm).1 := by
  unfold oR
  split
  · exact DI
  · rename_i h
    split
    · exact DI
    · split
      · exact DI
      · simp only [Bool.or_eq_true, Bool.not_eq_true', decide_eq_true_eq, not_or, Bool.not_eq_false] at h
        exact XE (LZ hl (wQ h.1.1).1)

theorem ZN {l : List aC} {d frm : Int} (h : (oR l d frm).2 = 0) : mD l = true ∧ oM l = true ∧ 1 ≤ d ∧ d ≤ 1099511627776 ∧ 0 ≤ frm ∧ frm ≤ 1125899906842624 ∧ oR l d frm = kI (pY d frm l) := by
  unfold oR at h ⊢
  split at h
  · simp at h
  · rename_i c1
    rw [if_neg c1]
    split at h
    · simp at h
    · rename_i c2
      rw [if_neg c2]
      split at h
      · simp at h
      · rename_i c3
        rw [if_neg c3]
        simp only [Bool.or_eq_true, Bool.not_eq_true', decide_eq_true_eq, not_or, Bool.not_eq_false] at c1 c2 c3
        exact ⟨c1.1.1, c2, by omega, by omega, by omega, by omega, rfl⟩

theorem SB {l : List aC} {d frm : Int} (h : (oR l d frm).2 = 0) : oM (oR l d frm).1 = true := by
  obtain ⟨_, _, g1, _, _, _, g2⟩ := ZN h
  rw [g2] at h ⊢
  refine TB h fun r t _ h2 => ?_
  rw [BJ, BB g1 h2]; exact DU ..

theorem ZU : oR [⟨[vL], 2, 1⟩, ⟨[vL], 5, 1⟩, ⟨[vL], 6, -1⟩, ⟨[vL], 9, -1⟩] 4 0 = ([⟨[vL], 2, 1⟩, ⟨[vL], 5, 1⟩, ⟨[vL], 6, -1⟩, ⟨[vL], 9, -1⟩], 0) := by decide +kernel

theorem YK : oR [] 0 0 = ([], 2) := by decide +kernel

theorem MF : qE = some true := by
  unfold qE
  have k1 : okL [⟨[vL], 2, 1⟩, ⟨[vL], 5, 1⟩, ⟨[vL], 6, -1⟩, ⟨[vL], 9, -1⟩] := aBp (by simp) (by simp)
  have h1 := (KZ k1 4 0).trans (congrArg some ZU)
  have h2 := (KZ DI 0 0).trans (congrArg some YK)
  unfold vL at h1
  rw [h1, h2]
  simp [aV]

end Go.Abs
namespace Go.Abs
open Go
theorem LK (l0 : (List aC)) (m0 : ∀ a ∈ l0, uX a) (y0 : List.length l0 * 40 ≤ 140737488351232) (a1 : Int) (w1 : yB a1) (a2 : Int) (w2 : yB a2) : pZ l0 a1 a2 = some true := by
  have k0 := aBq m0 y0
  unfold pZ yO
  simp only [Option.bind_some]
  by_cases c : ((List.length l0 : Nat) : Int) ≤ 60
  · have kn := WU k0 a1 a2
    simp only [decide_eq_true c, Bool.not_true, cond_false, KZ k0, VR k0, MF, Option.bind_some, decide_true, Bool.and_self, dK, cond_true, SA kn, MT kn]
    by_cases e : (oR l0 a1 a2).2 = 0
    · simp [e, SB e]
    · simp [e]
  · simp [c, MF]

end Go.Abs
