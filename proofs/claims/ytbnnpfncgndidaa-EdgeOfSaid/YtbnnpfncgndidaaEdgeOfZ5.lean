/- What the law EdgeOf stands on: the framework, the given functions as plain functions, their walks, and the plain laws; part 5. -/
import Derived.Test.YtbnnpfncgndidaaEdgeOfZ4
set_option linter.unusedSimpArgs false
set_option linter.unusedVariables false
namespace Go.Abs
open Go
variable {α : Type} [Inhabited α]
section sym
variable {ok : α → Prop} {le : α → α → Prop} {cmp : α → α → Option Int}
theorem ZZ {cmp : α → α → Option Int} {rec : List α → Int → Int → Int → Option (List α)} {e : Int} {x : α} : ∀ (B Q R : List α) (k : Nat), k = Q.length → e = ((Q.length + B.length + 1 : Nat) : Int) → (Q ++ x :: B ++ R).length ≤ 1099511627776 →
    lp (fun s : List α × Int => nH cmp rec e s.1 s.2) (Q ++ x :: B ++ R, (k : Int)) = some (Q ++ B ++ x :: R)
  | [], Q, R, k, hk, he, hl => by
    simp only [List.length_append, List.length_cons, List.length_nil] at hl he
    refine cK ?_
    show nH cmp rec e _ _ = _
    have : decide ((k : Int) < IntKind.i64.wrap (e - 1)) = false := by rw [wr (by omega) (by omega)]; simp; omega
    simp only [nH, this, cond_false]
    simp
  | y :: B, Q, R, k, hk, he, hl => by
    simp only [List.length_append, List.length_cons] at hl he
    have h1 : decide ((k : Int) < IntKind.i64.wrap (e - 1)) = true := by rw [wr (by omega) (by omega)]; simp; omega
    have hw : IntKind.i64.wrap ((k : Int) + 1) = ((k + 1 : Nat) : Int) := by rw [wr (by omega) (by omega)]; omega
    have b1 : 0 ≤ (k : Int) ∧ (k : Int) < ((List.length (Q ++ x :: y :: B ++ R) : Nat) : Int) := ⟨by omega, by simp only [List.length_append, List.length_cons]; omega⟩
    have b2 : 0 ≤ ((k + 1 : Nat) : Int) ∧ ((k + 1 : Nat) : Int) < ((List.length (Q ++ x :: y :: B ++ R) : Nat) : Int) := ⟨by omega, by simp only [List.length_append, List.length_cons]; omega⟩
    have hd : Q ++ x :: y :: B ++ R = Q ++ x :: ([] ++ y :: (B ++ R)) := by simp
    have g1 : (Q ++ x :: y :: B ++ R).getD k default = x := pX hd hk
    have g2 : (Q ++ x :: y :: B ++ R).getD (k + 1) default = y := pX (Q := Q ++ [x]) (R := B ++ R) (by simp) (by simp; omega)
    have hb : (fun s : List α × Int => nH cmp rec e s.1 s.2) (Q ++ x :: y :: B ++ R, (k : Int)) = some (.inl ((Q ++ [y]) ++ x :: B ++ R, ((k + 1 : Nat) : Int))) := by
      show nH cmp rec e _ _ = _
      simp only [nH, h1, cond_true, hw, aW b1, aW b2, Int.toNat_natCast, g1, g2]
      rw [RG (M := []) hd hk (by simp; omega)]
      simp
    rw [eS hb, ZZ B (Q ++ [y]) R (k + 1) (by simp; omega) (by rw [he]; simp only [List.length_append, List.length_cons, List.length_nil]; congr 1; omega) (by simp only [List.length_append, List.length_cons, List.length_nil]; omega)]
    simp

theorem aAv {cmp : α → α → Option Int} {rec : List α → Int → Int → Int → Option (List α)} {e : Int} {x : α} {Q : List α} (he : e = (Q.length : Nat)) : ∀ (n : Nat) (A R : List α) (k : Nat), A.length = n → k = Q.length + A.length → (Q ++ A ++ x :: R).length ≤ 1099511627776 →
    lp (fun s : List α × Int => nC cmp rec e s.1 s.2) (Q ++ A ++ x :: R, (k : Int)) = some (Q ++ x :: A ++ R) := by
  intro n
  induction n with
  | zero =>
    intro A R k hn hk hl
    have hA : A = [] := List.length_eq_zero_iff.1 hn
    subst hA
    refine cK ?_
    show nC cmp rec e _ _ = _
    have : decide (e < (k : Int)) = false := by simp only [List.length_nil] at hk; simp; omega
    simp only [nC, this, cond_false]
    simp
  | succ n ih =>
    intro A R k hn hk hl
    obtain ⟨A', y, rfl⟩ : ∃ A' y, A = A' ++ [y] := by
      rcases List.eq_nil_or_concat A with h | ⟨A', y, h⟩
      · rw [h] at hn; simp at hn
      · exact ⟨A', y, by simpa using h⟩
    simp only [List.length_append, List.length_cons, List.length_nil] at hl hk hn
    have h1 : decide (e < (k : Int)) = true := by simp; omega
    have hw : IntKind.i64.wrap ((k : Int) - 1) = ((Q.length + A'.length : Nat) : Int) := by rw [wr (by omega) (by omega)]; omega
    have b1 : 0 ≤ (k : Int) ∧ (k : Int) < ((List.length (Q ++ (A' ++ [y]) ++ x :: R) : Nat) : Int) := ⟨by omega, by simp only [List.length_append, List.length_cons, List.length_nil]; omega⟩
    have b2 : 0 ≤ ((Q.length + A'.length : Nat) : Int) ∧ ((Q.length + A'.length : Nat) : Int) < ((List.length (Q ++ (A' ++ [y]) ++ x :: R) : Nat) : Int) := ⟨by omega, by simp only [List.length_append, List.length_cons, List.length_nil]; omega⟩
    have g1 : (Q ++ (A' ++ [y]) ++ x :: R).getD k default = x := pX (Q := Q ++ (A' ++ [y])) rfl (by simp; omega)
    have g2 : (Q ++ (A' ++ [y]) ++ x :: R).getD (Q.length + A'.length) default = y := pX (Q := Q ++ A') (R := x :: R) (by simp) (by simp)
    have hb : (fun s : List α × Int => nC cmp rec e s.1 s.2) (Q ++ (A' ++ [y]) ++ x :: R, (k : Int)) = some (.inl (Q ++ A' ++ x :: (y :: R), ((Q.length + A'.length : Nat) : Int))) := by
      show nC cmp rec e _ _ = _
      simp only [nC, h1, cond_true, hw, aW b1, aW b2, Int.toNat_natCast, g1, g2]
      rw [CT (Q := Q ++ (A' ++ [y])) (x := x) (R := R) rfl (by simp; omega), CT (Q := Q ++ A') (x := y) (R := y :: R) (by simp) (by simp)]
    rw [eS hb, ih A' (y :: R) (Q.length + A'.length) (by omega) rfl (by simp only [List.length_append, List.length_cons]; omega)]
    simp

def TG (cmp : α → α → Option Int) (le : α → α → Prop) (P A B S : List α) (d : List α) (a m b : Int) : Prop :=
  (∃ r, IV le P A B S r ∧ ∀ rec, dX cmp rec d a m b = some r) ∨
  (∃ A1 A2 B1 B2, A = A1 ++ A2 ∧ B = B1 ++ B2 ∧ 0 < A1.length + B1.length ∧ 0 < A2.length + B2.length ∧ (∀ x ∈ A1 ++ B1, ∀ y ∈ A2 ++ B2, le x y) ∧
    ∀ rec, dX cmp rec d a m b = (cond (decide (A1 ≠ [] ∧ B1 ≠ [])) (rec (P ++ A1 ++ B1 ++ A2 ++ B2 ++ S) a (a + (A1.length : Nat)) (a + ((A1.length + B1.length : Nat) : Int))) (some (P ++ A1 ++ B1 ++ A2 ++ B2 ++ S))).bind fun x =>
      cond (decide (A2 ≠ [] ∧ B2 ≠ [])) (rec x (a + ((A1.length + B1.length : Nat) : Int)) (a + ((A1.length + B1.length + A2.length : Nat) : Int)) b) (some x))

theorem XM (C : Cmp ok le cmp) {P B S : List α} {x : α} {a m b : Int} (hx : ok x) (hB : Oks ok B) (hs : Srt le B) (ha : a = (P.length : Nat)) (hm : m = ((P.length + 1 : Nat) : Int)) (hb : b = ((P.length + 1 + B.length : Nat) : Int)) (hl : (P ++ x :: B ++ S).length ≤ 1099511627776) :
    ∃ r, IV le P [x] B S r ∧ ∀ rec, dX cmp rec (P ++ x :: B ++ S) a m b = some r := by
  have hl' := hl
  simp only [List.length_append, List.length_cons] at hl'
  have hgx : (P ++ x :: B ++ S).getD P.length default = x := pX (Q := P) (R := B ++ S) (by simp) rfl
  have hgb : ∀ k, k < B.length → (P ++ x :: B ++ S).getD (P.length + 1 + k) default = B.getD k default := fun k hk => DR (P := P ++ [x]) (B := B) (S := S) (by simp) (by simp) hk
  have hbin : ∀ rec, ∃ s : Nat, P.length + 1 ≤ s ∧ s ≤ P.length + 1 + B.length ∧ (s = P.length + 1 ∨ ¬ le x (B.getD (s - 1 - (P.length + 1)) default)) ∧ (s = P.length + 1 + B.length ∨ ¬ ¬ le x (B.getD (s - (P.length + 1)) default)) ∧
      lp (fun s : List α × Int × Int => nB cmp rec a s.1 s.2.1 s.2.2) (P ++ x :: B ++ S, m, b) = some (P ++ x :: B ++ S, ((s : Nat) : Int)) := by
    intro rec
    rw [hm, hb]
    refine QH (lo := P.length + 1) (hi := P.length + 1 + B.length) (f := fun k => ¬ le x (B.getD (k - (P.length + 1)) default)) ?_ ?_ _ _ _ (Nat.le_refl _) (Nat.le_refl _) (by omega) (Nat.le_refl _) (Or.inl rfl) (Or.inl rfl)
    · intro i j h1 h2 h3
      have hh : (i + j) / 2 - (P.length + 1) < B.length := by omega
      have e1 : (P ++ x :: B ++ S).getD ((i + j) / 2) default = B.getD ((i + j) / 2 - (P.length + 1)) default := by
        have := hgb ((i + j) / 2 - (P.length + 1)) hh
        rwa [show P.length + 1 + ((i + j) / 2 - (P.length + 1)) = (i + j) / 2 by omega] at this
      obtain ⟨v, hc, hv⟩ := C.ans _ x (hB _ (dH hh)) hx
      refine ⟨decide (v < 0), by simpa using hv, ?_⟩
      show nB cmp rec a _ _ _ = _
      have hlt : decide ((i : Int) < (j : Int)) = true := by simpa using h2
      have hadd : ((i : Int) + (j : Int)) = ((i + j : Nat) : Int) := by omega
      have w1 : IntKind.i64.wrap ((((i + j) / 2 : Nat) : Int) + 1) = (((i + j) / 2 + 1 : Nat) : Int) := by rw [wr (by omega) (by omega)]; omega
      simp only [nB, hlt, cond_true, hadd, half (s := i + j) (by omega), Int.toNat_natCast, ha, e1, hgx, hc, Option.bind_some, w1]
      rw [aW (by omega), aW ⟨by omega, by simp only [List.length_append, List.length_cons]; omega⟩, aW ⟨by omega, by simp only [List.length_append, List.length_cons]; omega⟩]
      by_cases hneg : v < 0 <;> simp [hneg]
    · intro i
      show nB cmp rec a _ _ _ = _
      have hlt : decide ((i : Int) < (i : Int)) = false := by simp
      simp only [nB, hlt, cond_false]
  obtain ⟨s, s1, s2, s3, s4, s5⟩ := hbin (fun _ _ _ _ => none)
  obtain ⟨t, rfl⟩ : ∃ t, s = P.length + 1 + t := ⟨s - (P.length + 1), by omega⟩
  have ht : t ≤ B.length := by omega
  have hx1 : ∀ i, i < t → le (B.getD i default) x := fun i hi => by
    have h3 : ¬ le x (B.getD (t - 1) default) := by
      rcases s3 with h | h
      · omega
      · rwa [show P.length + 1 + t - 1 - (P.length + 1) = t - 1 by omega] at h
    have h4 : le (B.getD (t - 1) default) x := by
      rcases C.total x _ hx (hB _ (dH (show t - 1 < B.length by omega))) with h | h
      · exact absurd h h3
      · exact h
    exact C.trans _ _ _ (hB _ (dH (by omega))) (hB _ (dH (by omega))) hx (rL C hB hs (show i ≤ t - 1 by omega) (by omega)) h4
  have hx2 : ∀ j, t ≤ j → j < B.length → le x (B.getD j default) := fun j hj hj' => by
    have h3 : le x (B.getD t default) := by
      rcases s4 with h | h
      · omega
      · rw [show P.length + 1 + t - (P.length + 1) = t by omega] at h
        exact Classical.not_not.1 h
    exact C.trans _ _ _ hx (hB _ (dH (by omega))) (hB _ (dH hj')) h3 (rL C hB hs hj hj')
  have hBs : B.take t ++ B.drop t = B := List.take_append_drop t B
  have hlt : (B.take t).length = t := by rw [List.length_take]; omega
  refine ⟨P ++ (B.take t ++ x :: B.drop t) ++ S, ⟨_, ?_, ?_, rfl⟩, fun rec => ?_⟩
  · have := List.perm_middle (a := x) (l₁ := B.take t) (l₂ := B.drop t)
    rw [hBs] at this; exact this
  · simp only [Srt, List.pairwise_append, List.pairwise_cons]
    refine ⟨PL hs t, ⟨fun z hz => ?_, OJ hs t⟩, fun y hy z hz => ?_⟩
    · obtain ⟨j, j1, j2, rfl⟩ := tO hz
      exact hx2 j j1 j2
    · obtain ⟨i, i1, i2, rfl⟩ := DJ hy
      rcases List.mem_cons.1 hz with rfl | hz
      · exact hx1 i i1
      · obtain ⟨j, j1, j2, rfl⟩ := tO hz
        exact rL C hB hs (by omega) j2
  · have h1 : decide (IntKind.i64.wrap (m - a) = 1) = true := by rw [wr (by omega) (by omega)]; simp; omega
    have s5' : lp (fun s : List α × Int × Int => nB cmp rec a s.1 s.2.1 s.2.2) (P ++ x :: B ++ S, m, b) = some (P ++ x :: B ++ S, ((P.length + 1 + t : Nat) : Int)) := s5
    simp only [dX, h1, cond_true, CR, s5', Option.bind_some, CW, CQ]
    have hmv := ZZ (cmp := cmp) (rec := rec) (e := ((P.length + 1 + t : Nat) : Int)) (x := x) (B.take t) P (B.drop t ++ S) P.length rfl (by rw [hlt]; congr 1; omega) (by simp only [List.length_append, List.length_cons, List.length_drop]; omega)
    have hd : P ++ x :: B.take t ++ (B.drop t ++ S) = P ++ x :: B ++ S := by
      have : P ++ x :: B.take t ++ (B.drop t ++ S) = P ++ x :: (B.take t ++ B.drop t) ++ S := by simp only [List.append_assoc, List.cons_append]
      rw [this, hBs]
    rw [hd] at hmv
    rw [ha, hmv]
    simp [DF]

theorem ZR (C : Cmp ok le cmp) {P A S : List α} {x : α} {a m b : Int} (hx : ok x) (hA : Oks ok A) (hs : Srt le A) (hA1 : A.length ≠ 1) (ha : a = (P.length : Nat)) (hm : m = ((P.length + A.length : Nat) : Int)) (hb : b = ((P.length + A.length + 1 : Nat) : Int)) (hl : (P ++ A ++ x :: S).length ≤ 1099511627776) :
    ∃ r, IV le P A [x] S r ∧ ∀ rec, dX cmp rec (P ++ A ++ x :: S) a m b = some r := by
  have hl' := hl
  simp only [List.length_append, List.length_cons] at hl'
  have hgx : (P ++ A ++ x :: S).getD (P.length + A.length) default = x := pX (Q := P ++ A) (R := S) rfl (by simp)
  have hga : ∀ k, k < A.length → (P ++ A ++ x :: S).getD (P.length + k) default = A.getD k default := fun k hk => DR (P := P) (B := A) (S := x :: S) rfl rfl hk
  have hbin : ∀ rec, ∃ s : Nat, P.length ≤ s ∧ s ≤ P.length + A.length ∧ (s = P.length ∨ le (A.getD (s - 1 - P.length) default) x) ∧ (s = P.length + A.length ∨ ¬ le (A.getD (s - P.length) default) x) ∧
      lp (fun s : List α × Int × Int => nD cmp rec m s.1 s.2.1 s.2.2) (P ++ A ++ x :: S, a, m) = some (P ++ A ++ x :: S, ((s : Nat) : Int)) := by
    intro rec
    rw [ha, hm]
    refine QH (lo := P.length) (hi := P.length + A.length) (f := fun k => le (A.getD (k - P.length) default) x) ?_ ?_ _ _ _ (Nat.le_refl _) (Nat.le_refl _) (by omega) (Nat.le_refl _) (Or.inl rfl) (Or.inl rfl)
    · intro i j h1 h2 h3
      have hh : (i + j) / 2 - P.length < A.length := by omega
      have e1 : (P ++ A ++ x :: S).getD ((i + j) / 2) default = A.getD ((i + j) / 2 - P.length) default := by
        have := hga ((i + j) / 2 - P.length) hh
        rwa [show P.length + ((i + j) / 2 - P.length) = (i + j) / 2 by omega] at this
      obtain ⟨v, hc, hv⟩ := C.ans x _ hx (hA _ (dH hh))
      refine ⟨!decide (v < 0), by simp only [Bool.not_eq_true', decide_eq_false_iff_not, hv, Classical.not_not], ?_⟩
      show nD cmp rec _ _ _ _ = _
      have hlt : decide ((i : Int) < (j : Int)) = true := by simpa using h2
      have hadd : ((i : Int) + (j : Int)) = ((i + j : Nat) : Int) := by omega
      have w1 : IntKind.i64.wrap ((((i + j) / 2 : Nat) : Int) + 1) = (((i + j) / 2 + 1 : Nat) : Int) := by rw [wr (by omega) (by omega)]; omega
      simp only [nD, hlt, cond_true, hadd, half (s := i + j) (by omega), Int.toNat_natCast, e1, hgx, hc, Option.bind_some, w1]
      rw [aW (by omega), aW ⟨by omega, by simp only [List.length_append, List.length_cons]; omega⟩, aW ⟨by omega, by simp only [List.length_append, List.length_cons]; omega⟩]
      by_cases hneg : v < 0 <;> simp [hneg]
    · intro i
      show nD cmp rec _ _ _ _ = _
      have hlt : decide ((i : Int) < (i : Int)) = false := by simp
      simp only [nD, hlt, cond_false]
  obtain ⟨s, s1, s2, s3, s4, s5⟩ := hbin (fun _ _ _ _ => none)
  obtain ⟨t, rfl⟩ : ∃ t, s = P.length + t := ⟨s - P.length, by omega⟩
  have ht : t ≤ A.length := by omega
  have hx1 : ∀ i, i < t → le (A.getD i default) x := fun i hi => by
    have h4 : le (A.getD (t - 1) default) x := by
      rcases s3 with h | h
      · omega
      · rwa [show P.length + t - 1 - P.length = t - 1 by omega] at h
    exact C.trans _ _ _ (hA _ (dH (by omega))) (hA _ (dH (by omega))) hx (rL C hA hs (show i ≤ t - 1 by omega) (by omega)) h4
  have hx2 : ∀ j, t ≤ j → j < A.length → le x (A.getD j default) := fun j hj hj' => by
    have h3 : le x (A.getD t default) := by
      rcases s4 with h | h
      · omega
      · rw [show P.length + t - P.length = t by omega] at h
        rcases C.total x _ hx (hA _ (dH (show t < A.length by omega))) with h' | h'
        · exact h'
        · exact absurd h' h
    exact C.trans _ _ _ hx (hA _ (dH (by omega))) (hA _ (dH hj')) h3 (rL C hA hs hj hj')
  have hAs : A.take t ++ A.drop t = A := List.take_append_drop t A
  have hlt : (A.take t).length = t := by rw [List.length_take]; omega
  refine ⟨P ++ (A.take t ++ x :: A.drop t) ++ S, ⟨_, ?_, ?_, rfl⟩, fun rec => ?_⟩
  · have := List.perm_middle (a := x) (l₁ := A.take t) (l₂ := A.drop t)
    rw [hAs] at this
    exact this.trans (by simpa using (List.perm_append_comm (l₁ := [x]) (l₂ := A)))
  · simp only [Srt, List.pairwise_append, List.pairwise_cons]
    refine ⟨PL hs t, ⟨fun z hz => ?_, OJ hs t⟩, fun y hy z hz => ?_⟩
    · obtain ⟨j, j1, j2, rfl⟩ := tO hz
      exact hx2 j j1 j2
    · obtain ⟨i, i1, i2, rfl⟩ := DJ hy
      rcases List.mem_cons.1 hz with rfl | hz
      · exact hx1 i i1
      · obtain ⟨j, j1, j2, rfl⟩ := tO hz
        exact rL C hA hs (by omega) j2
  · have h1 : decide (IntKind.i64.wrap (m - a) = 1) = false := by rw [wr (by omega) (by omega)]; simp; omega
    have h2 : decide (IntKind.i64.wrap (b - m) = 1) = true := by rw [wr (by omega) (by omega)]; simp; omega
    have s5' : lp (fun s : List α × Int × Int => nD cmp rec m s.1 s.2.1 s.2.2) (P ++ A ++ x :: S, a, m) = some (P ++ A ++ x :: S, ((P.length + t : Nat) : Int)) := s5
    simp only [dX, h1, cond_false, zW, h2, cond_true, CV, s5', Option.bind_some, EO, DD]
    have hmv := aAv (cmp := cmp) (rec := rec) (e := ((P.length + t : Nat) : Int)) (x := x) (Q := P ++ A.take t) (by simp [hlt]) (A.drop t).length (A.drop t) S (P.length + A.length) rfl (by simp only [List.length_append, List.length_drop, hlt]; omega) (by simp only [List.length_append, List.length_cons, List.length_drop, hlt]; omega)
    have hd : P ++ A.take t ++ A.drop t ++ x :: S = P ++ A ++ x :: S := by
      have : P ++ A.take t ++ A.drop t ++ x :: S = P ++ (A.take t ++ A.drop t) ++ x :: S := by simp only [List.append_assoc]
      rw [this, hAs]
    rw [hd] at hmv
    rw [hm, hmv]
    simp [EX]

theorem aAE (C : Cmp ok le cmp) {P A B S : List α} {a m b : Int} (hA : Oks ok A) (hB : Oks ok B) (hsA : Srt le A) (hsB : Srt le B) (hA2 : 2 ≤ A.length) (hB2 : 2 ≤ B.length)
    (ha : a = (P.length : Nat)) (hm : m = ((P.length + A.length : Nat) : Int)) (hb : b = ((P.length + A.length + B.length : Nat) : Int)) (hl : (P ++ A ++ B ++ S).length ≤ 1099511627776) :
    TG cmp le P A B S (P ++ A ++ B ++ S) a m b := by
  right
  have hl' := hl
  simp only [List.length_append] at hl'
  -- the middle
  obtain ⟨mid, hmid⟩ : ∃ mid : Nat, mid = (P.length + (P.length + A.length + B.length)) / 2 := ⟨_, rfl⟩
  have hga : ∀ k, P.length ≤ k → k < P.length + A.length → (P ++ A ++ B ++ S).getD k default = A.getD (k - P.length) default := fun k h1 h2 => DR (P := P) (B := A) (S := B ++ S) (by simp) (by omega) (by omega)
  have hgb : ∀ k, P.length + A.length ≤ k → k < P.length + A.length + B.length → (P ++ A ++ B ++ S).getD k default = B.getD (k - (P.length + A.length)) default := fun k h1 h2 => DR (P := P ++ A) (B := B) (S := S) (by simp) (by simp; omega) (by omega)
  -- the search
  obtain ⟨lo, hi, hlo, hhi, hbnd, hlohi, hrange, hinit⟩ : ∃ lo hi : Nat, (lo = P.length ∨ lo + (P.length + A.length + B.length) = mid + (P.length + A.length)) ∧ (hi = P.length + A.length ∨ hi = mid) ∧ (P.length ≤ lo ∧ mid + (P.length + A.length) ≤ lo + (P.length + A.length + B.length) ∧ hi ≤ P.length + A.length ∧ hi ≤ mid) ∧ lo ≤ hi ∧
      (∀ c, lo ≤ c → c < hi → P.length ≤ c ∧ c < P.length + A.length ∧ P.length + A.length ≤ mid + (P.length + A.length) - 1 - c ∧ mid + (P.length + A.length) - 1 - c < P.length + A.length + B.length) ∧
      (∀ rec, vS cmp rec (P ++ A ++ B ++ S) a m b = wH cmp rec (P ++ A ++ B ++ S) a m b (mid : Int) ((mid + (P.length + A.length) : Nat) : Int) (lo : Int) (hi : Int)) := by
    have hw0 : IntKind.i64.wrap (Int.fdiv (IntKind.u64.wrap (IntKind.i64.wrap (a + b))) (2 ^ (min (Int.toNat (1 : Int)) 64))) = ((mid : Nat) : Int) := by
      rw [show a + b = ((P.length + (P.length + A.length + B.length) : Nat) : Int) by omega, half (by omega), hmid]
    have hw1 : IntKind.i64.wrap ((mid : Int) + m) = ((mid + (P.length + A.length) : Nat) : Int) := by rw [wr (by omega) (by omega)]; omega
    by_cases hc : mid < P.length + A.length
    · refine ⟨mid + (P.length + A.length) - (P.length + A.length + B.length), mid, Or.inr (by omega), Or.inr (by omega), by omega, by omega, fun c h1 h2 => ⟨by omega, by omega, by omega, by omega⟩, fun rec => ?_⟩
      have hlt : decide ((mid : Int) < m) = true := by simp; omega
      simp only [vS, hw0, hlt, cond_true, hw1]
      rw [aW (by omega), show IntKind.i64.wrap (((mid + (P.length + A.length) : Nat) : Int) - b) = ((mid + (P.length + A.length) - (P.length + A.length + B.length) : Nat) : Int) by rw [wr (by omega) (by omega)]; omega]
    · refine ⟨P.length, P.length + A.length, Or.inl rfl, Or.inl rfl, by omega, by omega, fun c h1 h2 => ⟨by omega, by omega, by omega, by omega⟩, fun rec => ?_⟩
      have hlt : decide ((mid : Int) < m) = false := by simp; omega
      simp only [vS, hw0, hlt, cond_false, hw1]
      rw [aW (by omega)]
      rw [ha, hm]
  have hbin : ∀ rec, ∃ s : Nat, lo ≤ s ∧ s ≤ hi ∧ (s = lo ∨ le (A.getD (s - 1 - P.length) default) (B.getD (mid + (P.length + A.length) - 1 - (s - 1) - (P.length + A.length)) default)) ∧ (s = hi ∨ ¬ le (A.getD (s - P.length) default) (B.getD (mid + (P.length + A.length) - 1 - s - (P.length + A.length)) default)) ∧
      lp (fun s : List α × Int × Int => nX cmp rec a m b (mid : Int) ((mid + (P.length + A.length) : Nat) : Int) ((mid + (P.length + A.length) - 1 : Nat) : Int) s.1 s.2.1 s.2.2) (P ++ A ++ B ++ S, (lo : Int), (hi : Int)) = some (P ++ A ++ B ++ S, ((s : Nat) : Int)) := by
    intro rec
    refine QH (lo := lo) (hi := hi) (f := fun k => le (A.getD (k - P.length) default) (B.getD (mid + (P.length + A.length) - 1 - k - (P.length + A.length)) default)) ?_ ?_ _ _ _ (Nat.le_refl _) (Nat.le_refl _) hlohi (Nat.le_refl _) (Or.inl rfl) (Or.inl rfl)
    · intro i j h1 h2 h3
      obtain ⟨r1, r2, r3, r4⟩ := hrange ((i + j) / 2) (by omega) (by omega)
      have e1 := hga ((i + j) / 2) r1 r2
      have e2 := hgb (mid + (P.length + A.length) - 1 - (i + j) / 2) r3 r4
      obtain ⟨v, hc, hv⟩ := C.ans (B.getD (mid + (P.length + A.length) - 1 - (i + j) / 2 - (P.length + A.length)) default) (A.getD ((i + j) / 2 - P.length) default) (hB _ (dH (by omega))) (hA _ (dH (by omega)))
      refine ⟨!decide (v < 0), by simp only [Bool.not_eq_true', decide_eq_false_iff_not, hv, Classical.not_not], ?_⟩
      show nX cmp rec _ _ _ _ _ _ _ _ _ = _
      have hlt : decide ((i : Int) < (j : Int)) = true := by simpa using h2
      have hadd : ((i : Int) + (j : Int)) = ((i + j : Nat) : Int) := by omega
      have w1 : IntKind.i64.wrap ((((i + j) / 2 : Nat) : Int) + 1) = (((i + j) / 2 + 1 : Nat) : Int) := by rw [wr (by omega) (by omega)]; omega
      have w2 : IntKind.i64.wrap (((mid + (P.length + A.length) - 1 : Nat) : Int) - (((i + j) / 2 : Nat) : Int)) = ((mid + (P.length + A.length) - 1 - (i + j) / 2 : Nat) : Int) := by rw [wr (by omega) (by omega)]; omega
      simp only [nX, hlt, cond_true, hadd, half (s := i + j) (by omega), w1, w2, Int.toNat_natCast, e1, e2, hc, Option.bind_some]
      rw [aW (by omega), aW ⟨by omega, by simp only [List.length_append]; omega⟩, aW ⟨by omega, by simp only [List.length_append]; omega⟩]
      by_cases hneg : v < 0 <;> simp [hneg]
    · intro i
      show nX cmp rec _ _ _ _ _ _ _ _ _ = _
      have hlt : decide ((i : Int) < (i : Int)) = false := by simp
      simp only [nX, hlt, cond_false]
  obtain ⟨s, s1, s2, s3, s4, s5⟩ := hbin (fun _ _ _ _ => none)
  have hsA0 : P.length ≤ s ∧ s ≤ P.length + A.length := by
    omega
  have hsB0 : P.length + A.length ≤ mid + (P.length + A.length) - s ∧ mid + (P.length + A.length) - s ≤ P.length + A.length + B.length := by
    omega
  obtain ⟨t, rfl⟩ : ∃ t, s = P.length + t := ⟨s - P.length, by omega⟩
  obtain ⟨u, hu⟩ : ∃ u, mid + (P.length + A.length) - (P.length + t) = P.length + A.length + u := ⟨mid + (P.length + A.length) - (P.length + t) - (P.length + A.length), by omega⟩
  have htA : t ≤ A.length := by omega
  have huB : u ≤ B.length := by omega
  have hmtu : mid = P.length + t + u := by omega
  have hAs : A.take t ++ A.drop t = A := List.take_append_drop t A
  have hBs : B.take u ++ B.drop u = B := List.take_append_drop u B
  have hlA1 : (A.take t).length = t := by rw [List.length_take]; omega
  have hlA2 : (A.drop t).length = A.length - t := by rw [List.length_drop]
  have hlB1 : (B.take u).length = u := by rw [List.length_take]; omega
  have hlB2 : (B.drop u).length = B.length - u := by rw [List.length_drop]
  refine ⟨A.take t, A.drop t, B.take u, B.drop u, hAs.symm, hBs.symm, by rw [hlA1, hlB1]; omega, by rw [hlA2, hlB2]; omega, ?_, fun rec => ?_⟩
  · -- who stands ahead of whom
    intro x hx y hy
    rcases List.mem_append.1 hx with hx | hx
    · obtain ⟨i, i1, i2, rfl⟩ := DJ hx
      rcases List.mem_append.1 hy with hy | hy
      · obtain ⟨j, j1, j2, rfl⟩ := tO hy
        exact rL C hA hsA (by omega) j2
      · obtain ⟨j, j1, j2, rfl⟩ := tO hy
        have h3 : le (A.getD (t - 1) default) (B.getD u default) := by
          rcases s3 with h | h
          · rcases hlo with h' | h' <;> omega
          · rwa [show P.length + t - 1 - P.length = t - 1 by omega, show mid + (P.length + A.length) - 1 - (P.length + t - 1) - (P.length + A.length) = u by omega] at h
        exact C.trans _ _ _ (hA _ (dH i2)) (hA _ (dH (by omega))) (hB _ (dH j2)) (rL C hA hsA (show i ≤ t - 1 by omega) (by omega))
          (C.trans _ _ _ (hA _ (dH (by omega))) (hB _ (dH (by omega))) (hB _ (dH j2)) h3 (rL C hB hsB j1 j2))
    · obtain ⟨i, i1, i2, rfl⟩ := DJ hx
      rcases List.mem_append.1 hy with hy | hy
      · obtain ⟨j, j1, j2, rfl⟩ := tO hy
        have h3 : le (B.getD (u - 1) default) (A.getD t default) := by
          have h0 : ¬ le (A.getD t default) (B.getD (u - 1) default) := by
            rcases s4 with h | h
            · rcases hhi with h' | h' <;> omega
            · rwa [show P.length + t - P.length = t by omega, show mid + (P.length + A.length) - 1 - (P.length + t) - (P.length + A.length) = u - 1 by omega] at h
          rcases C.total _ _ (hA _ (dH (show t < A.length by omega))) (hB _ (dH (show u - 1 < B.length by omega))) with h | h
          · exact absurd h h0
          · exact h
        exact C.trans _ _ _ (hB _ (dH i2)) (hB _ (dH (by omega))) (hA _ (dH j2)) (rL C hB hsB (show i ≤ u - 1 by omega) (by omega))
          (C.trans _ _ _ (hB _ (dH (by omega))) (hA _ (dH (by omega))) (hA _ (dH j2)) h3 (rL C hA hsA j1 j2))
      · obtain ⟨j, j1, j2, rfl⟩ := tO hy
        exact rL C hB hsB (by omega) j2
  · have h1 : decide (IntKind.i64.wrap (m - a) = 1) = false := by rw [wr (by omega) (by omega)]; simp; omega
    have h2 : decide (IntKind.i64.wrap (b - m) = 1) = false := by rw [wr (by omega) (by omega)]; simp; omega
    have s5' : lp (fun s : List α × Int × Int => nX cmp rec a m b (mid : Int) ((mid + (P.length + A.length) : Nat) : Int) ((mid + (P.length + A.length) - 1 : Nat) : Int) s.1 s.2.1 s.2.2) (P ++ A ++ B ++ S, (lo : Int), (hi : Int)) = some (P ++ A ++ B ++ S, ((P.length + t : Nat) : Int)) := s5
    have hp : IntKind.i64.wrap (((mid + (P.length + A.length) : Nat) : Int) - 1) = ((mid + (P.length + A.length) - 1 : Nat) : Int) := by rw [wr (by omega) (by omega)]; omega
    have he : IntKind.i64.wrap (((mid + (P.length + A.length) : Nat) : Int) - ((P.length + t : Nat) : Int)) = ((P.length + A.length + u : Nat) : Int) := by rw [wr (by omega) (by omega)]; omega
    simp only [dX, h1, cond_false, zW, h2, hinit rec, wH, ER, hp, s5', Option.bind_some, EW, he]
    -- the turn
    have hd : P ++ A ++ B ++ S = (P ++ A.take t) ++ A.drop t ++ B.take u ++ (B.drop u ++ S) := by
      have : (P ++ A.take t) ++ A.drop t ++ B.take u ++ (B.drop u ++ S) = P ++ (A.take t ++ A.drop t) ++ (B.take u ++ B.drop u) ++ S := by simp only [List.append_assoc]
      rw [this, hAs, hBs]
    have hrot : cond (decide (((P.length + t : Nat) : Int) < m) && decide (m < ((P.length + A.length + u : Nat) : Int)))
        ((CA (P ++ A ++ B ++ S) ((P.length + t : Nat) : Int) m ((P.length + A.length + u : Nat) : Int) cmp).bind fun x10 => pO cmp rec x10 a b (mid : Int) ((P.length + t : Nat) : Int) ((P.length + A.length + u : Nat) : Int))
        (pO cmp rec (P ++ A ++ B ++ S) a b (mid : Int) ((P.length + t : Nat) : Int) ((P.length + A.length + u : Nat) : Int))
        = pO cmp rec (P ++ A.take t ++ B.take u ++ A.drop t ++ B.drop u ++ S) a b (mid : Int) ((P.length + t : Nat) : Int) ((P.length + A.length + u : Nat) : Int) := by
      by_cases hc : t < A.length ∧ 0 < u
      · have : (decide (((P.length + t : Nat) : Int) < m) && decide (m < ((P.length + A.length + u : Nat) : Int))) = true := by simp; omega
        rw [this, cond_true, aA0 (Q := P ++ A.take t) (X := A.drop t) (Y := B.take u) (R := B.drop u ++ S) hd (fun h => by rw [h] at hlA2; simp at hlA2; omega) (fun h => by rw [h] at hlB1; simp at hlB1; omega)
          (by simp only [List.length_append, hlA1]) (by simp only [List.length_append, hlA1, hlA2]; rw [hm]; congr 1; omega) (by simp only [List.length_append, hlA1, hlA2, hlB1]; congr 1; omega) hl]
        simp
      · have : (decide (((P.length + t : Nat) : Int) < m) && decide (m < ((P.length + A.length + u : Nat) : Int))) = false := by
          rw [Bool.eq_false_iff]; intro h; simp at h; apply hc; omega
        rw [this, cond_false, hd]
        congr 1
        by_cases h0 : t < A.length
        · have : u = 0 := by omega
          subst this; simp
        · have hz : A.drop t = [] := List.drop_eq_nil_of_le (by omega)
          simp only [hz, List.append_nil, List.append_assoc, List.nil_append]
    rw [hrot]
    have hne1 : decide (A.take t ≠ [] ∧ B.take u ≠ []) = (decide (a < ((P.length + t : Nat) : Int)) && decide (((P.length + t : Nat) : Int) < (mid : Int))) := by
      have q1 : A.take t ≠ [] ↔ 0 < t := by rw [← List.length_pos_iff, hlA1]
      have q2 : B.take u ≠ [] ↔ 0 < u := by rw [← List.length_pos_iff, hlB1]
      rw [Bool.eq_iff_iff]; simp [q1, q2]; omega
    have hne2 : decide (A.drop t ≠ [] ∧ B.drop u ≠ []) = (decide ((mid : Int) < ((P.length + A.length + u : Nat) : Int)) && decide (((P.length + A.length + u : Nat) : Int) < b)) := by
      have q1 : A.drop t ≠ [] ↔ t < A.length := by rw [← List.length_pos_iff, hlA2]; omega
      have q2 : B.drop u ≠ [] ↔ u < B.length := by rw [← List.length_pos_iff, hlB2]; omega
      rw [Bool.eq_iff_iff]; simp [q1, q2]; omega
    rw [hne1, hne2, hlA1, hlB1, hlA2]
    have f1 : a + ((t : Nat) : Int) = ((P.length + t : Nat) : Int) := by omega
    have f2 : a + ((t + u : Nat) : Int) = (mid : Int) := by omega
    have f3 : a + ((t + u + (A.length - t) : Nat) : Int) = ((P.length + A.length + u : Nat) : Int) := by omega
    rw [f1, f2, f3]
    simp only [pO, AD]
    cases (decide (a < ((P.length + t : Nat) : Int)) && decide (((P.length + t : Nat) : Int) < (mid : Int))) <;> simp only [cond_true, cond_false, Option.bind_some, Option.bind_fun_some]

end sym
end Go.Abs
namespace Go.Abs
open Go
variable {α : Type} [Inhabited α] {ok : α → Prop} {le : α → α → Prop} {cmp : α → α → Option Int}
theorem aAO (C : Cmp ok le cmp) {P A B S : List α} {a m b : Int} (hA : A ≠ []) (hB : B ≠ []) (oA : Oks ok A) (oB : Oks ok B) (sA : Srt le A) (sB : Srt le B)
    (ha : a = (P.length : Nat)) (hm : m = ((P.length + A.length : Nat) : Int)) (hb : b = ((P.length + A.length + B.length : Nat) : Int)) (hl : (P ++ A ++ B ++ S).length ≤ 1099511627776) : TG cmp le P A B S (P ++ A ++ B ++ S) a m b := by
  by_cases h1 : A.length = 1
  · obtain ⟨x, rfl⟩ := List.length_eq_one_iff.1 h1
    left
    obtain ⟨r, h, h'⟩ := XM C (P := P) (S := S) (x := x) (oA x (by simp)) oB sB ha (by simpa using hm) (by simpa using hb) (by simpa using hl)
    exact ⟨r, h, fun rec => by have := h' rec; simpa using this⟩
  · by_cases h2 : B.length = 1
    · obtain ⟨x, rfl⟩ := List.length_eq_one_iff.1 h2
      left
      obtain ⟨r, h, h'⟩ := ZR C (P := P) (S := S) (x := x) (oB x (by simp)) oA sA h1 ha hm (by simpa using hb) (by simpa using hl)
      exact ⟨r, h, fun rec => by have := h' rec; simpa using this⟩
    · have p1 := List.length_pos_iff.2 hA
      have p2 := List.length_pos_iff.2 hB
      exact aAE C oA oB sA sB (by omega) (by omega) ha hm hb hl

theorem IK (C : Cmp ok le cmp) : ∀ (k : Nat) (P A B S : List α) (a m b : Int), A ≠ [] → B ≠ [] → Oks ok A → Oks ok B → Srt le A → Srt le B →
    a = (P.length : Nat) → m = ((P.length + A.length : Nat) : Int) → b = ((P.length + A.length + B.length : Nat) : Int) → (P ++ A ++ B ++ S).length ≤ 1099511627776 →
    (∀ r, dZ cmp k (P ++ A ++ B ++ S) a m b = some r → IV le P A B S r) ∧ (A.length + B.length ≤ k → ∃ r, dZ cmp k (P ++ A ++ B ++ S) a m b = some r)
  | 0, P, A, B, S, a, m, b, hA, hB, oA, oB, sA, sB, ha, hm, hb, hl => by
    refine ⟨fun r h => by simp [dZ] at h, fun h => ?_⟩
    exact absurd (List.length_eq_zero_iff.1 (by omega)) hA
  | k + 1, P, A, B, S, a, m, b, hA, hB, oA, oB, sA, sB, ha, hm, hb, hl => by
    have part : ∀ (P' A' B' S' : List α) (a' m' b' : Int), Oks ok A' → Oks ok B' → Srt le A' → Srt le B' → a' = (P'.length : Nat) → m' = ((P'.length + A'.length : Nat) : Int) → b' = ((P'.length + A'.length + B'.length : Nat) : Int) → (P' ++ A' ++ B' ++ S').length ≤ 1099511627776 →
        (∀ r, cond (decide (A' ≠ [] ∧ B' ≠ [])) (dZ cmp k (P' ++ A' ++ B' ++ S') a' m' b') (some (P' ++ A' ++ B' ++ S')) = some r → IV le P' A' B' S' r) ∧
        (A'.length + B'.length ≤ k → ∃ r, cond (decide (A' ≠ [] ∧ B' ≠ [])) (dZ cmp k (P' ++ A' ++ B' ++ S') a' m' b') (some (P' ++ A' ++ B' ++ S')) = some r) := by
      intro P' A' B' S' a' m' b' oA' oB' sA' sB' ha' hm' hb' hl'
      by_cases h : A' ≠ [] ∧ B' ≠ []
      · rw [decide_eq_true h, cond_true]
        exact IK C k P' A' B' S' a' m' b' h.1 h.2 oA' oB' sA' sB' ha' hm' hb' hl'
      · rw [decide_eq_false h, cond_false]
        refine ⟨fun r hr => ?_, fun _ => ⟨_, rfl⟩⟩
        cases hr
        refine ⟨A' ++ B', List.Perm.refl _, ?_, by simp⟩
        by_cases h1 : A' = []
        · subst h1; simpa using sB'
        · have h2 : B' = [] := Classical.byContradiction fun h2 => h ⟨h1, h2⟩
          subst h2; simpa using sA'
    rcases aAO C hA hB oA oB sA sB ha hm hb hl with ⟨r, hr, hs⟩ | ⟨A1, A2, B1, B2, rfl, rfl, p1, p2, hcross, hs⟩
    · have e : dZ cmp (k + 1) (P ++ A ++ B ++ S) a m b = some r := hs _
      exact ⟨fun r' h => by rw [e] at h; cases h; exact hr, fun _ => ⟨r, e⟩⟩
    · have e := hs (dZ cmp k)
      rw [show dX cmp (dZ cmp k) = dZ cmp (k + 1) from rfl] at e
      have q1 := part P A1 B1 (A2 ++ B2 ++ S) a (a + (A1.length : Nat)) (a + ((A1.length + B1.length : Nat) : Int)) (fun x hx => oA x (by simp [hx])) (fun x hx => oB x (by simp [hx]))
        (List.pairwise_append.1 sA).1 (List.pairwise_append.1 sB).1 ha (by omega) (by omega) (by simp only [List.length_append] at hl ⊢; omega)
      have hd1 : P ++ A1 ++ B1 ++ A2 ++ B2 ++ S = P ++ A1 ++ B1 ++ (A2 ++ B2 ++ S) := by simp
      rw [hd1] at e
      have q2 : ∀ D1 : List α, D1.Perm (A1 ++ B1) → _ := fun D1 hD1 => part (P ++ D1) A2 B2 S (a + ((A1.length + B1.length : Nat) : Int)) (a + ((A1.length + B1.length + A2.length : Nat) : Int)) b (fun x hx => oA x (by simp [hx])) (fun x hx => oB x (by simp [hx]))
        (List.pairwise_append.1 sA).2.1 (List.pairwise_append.1 sB).2.1 (by have := hD1.length_eq; simp only [List.length_append] at this ⊢; omega) (by have := hD1.length_eq; simp only [List.length_append] at this ⊢; omega)
        (by have := hD1.length_eq; rw [hb]; simp only [List.length_append] at this ⊢; congr 1; omega) (by have := hD1.length_eq; simp only [List.length_append] at hl this ⊢; omega)
      refine ⟨fun r h => ?_, fun hk => ?_⟩
      · rw [e] at h
        obtain ⟨x, h1, h2⟩ := Option.bind_eq_some_iff.1 h
        obtain ⟨D1, d1, d2, rfl⟩ := q1.1 x h1
        have h2' : cond (decide (A2 ≠ [] ∧ B2 ≠ [])) (dZ cmp k (P ++ D1 ++ A2 ++ B2 ++ S) (a + ((A1.length + B1.length : Nat) : Int)) (a + ((A1.length + B1.length + A2.length : Nat) : Int)) b) (some (P ++ D1 ++ A2 ++ B2 ++ S)) = some r := by
          have : P ++ D1 ++ (A2 ++ B2 ++ S) = P ++ D1 ++ A2 ++ B2 ++ S := by simp
          rw [this] at h2; exact h2
        obtain ⟨D2, f1, f2, rfl⟩ := (q2 D1 d1).1 r h2'
        refine ⟨D1 ++ D2, ?_, ?_, by simp⟩
        · refine (d1.append f1).trans ?_
          have : (B1 ++ (A2 ++ B2)).Perm (A2 ++ (B1 ++ B2)) := by
            have := (List.perm_append_comm (l₁ := B1) (l₂ := A2)).append_right B2
            simpa using this
          have := this.append_left A1
          simpa using this
        · rw [Srt, List.pairwise_append]
          exact ⟨d2, f2, fun x hx y hy => hcross x (d1.mem_iff.1 hx) y (f1.mem_iff.1 hy)⟩
      · simp only [List.length_append] at hk
        obtain ⟨x, hx⟩ := q1.2 (by omega)
        obtain ⟨D1, d1, d2, rfl⟩ := q1.1 x hx
        obtain ⟨r, hr⟩ := (q2 D1 d1).2 (by omega)
        refine ⟨r, ?_⟩
        rw [e, hx]
        have : P ++ D1 ++ (A2 ++ B2 ++ S) = P ++ D1 ++ A2 ++ B2 ++ S := by simp
        rw [this]; exact hr

theorem UG {β : Type} {g : Nat → Option β} (h : ∃ k r, g k = some r) : ∃ r, ID g = some r := by
  unfold ID
  rw [dif_pos h]
  exact Classical.choose_spec h

theorem YC (C : Cmp ok le cmp) {P A B S d : List α} {a m b : Int} (hd : d = P ++ A ++ B ++ S) (hA : A ≠ []) (hB : B ≠ []) (oA : Oks ok A) (oB : Oks ok B) (sA : Srt le A) (sB : Srt le B)
    (ha : a = (P.length : Nat)) (hm : m = ((P.length + A.length : Nat) : Int)) (hb : b = ((P.length + A.length + B.length : Nat) : Int)) (hl : d.length ≤ 1099511627776) :
    ∃ D, D.Perm (A ++ B) ∧ Srt le D ∧ oR d a m b cmp = some (P ++ D ++ S) := by
  subst hd
  unfold oR
  obtain ⟨r, hr⟩ := (IK C (A.length + B.length) P A B S a m b hA hB oA oB sA sB ha hm hb hl).2 (Nat.le_refl _)
  obtain ⟨r', hr'⟩ := UG (g := fun k => dZ cmp k (P ++ A ++ B ++ S) a m b) ⟨_, r, hr⟩
  obtain ⟨k, hk⟩ := GF hr'
  obtain ⟨D, d1, d2, rfl⟩ := (IK C k P A B S a m b hA hB oA oB sA sB ha hm hb hl).1 r' hk
  exact ⟨D, d1, d2, hr'⟩

inductive mU {β : Type} (le : β → β → Prop) (n : Nat) : List β → Prop
  | last {l : List β} : l.length ≤ n → Srt le l → mU le n l
  | cons {x l : List β} : x.length = n → Srt le x → mU le n l → mU le n (x ++ l)

theorem mU.srt {β : Type} {le : β → β → Prop} {n : Nat} {l : List β} (h : mU le n l) (hl : l.length ≤ n) : Srt le l := by
  cases h with
  | last _ h => exact h
  | cons hx hs hr =>
    rename_i x r
    have : r = [] := List.length_eq_zero_iff.1 (by simp only [List.length_append] at hl; omega)
    subst this; simpa using hs

theorem mU.split {β : Type} {le : β → β → Prop} {n : Nat} {l : List β} (h : mU le n l) (hl : n < l.length) : ∃ x r, l = x ++ r ∧ x.length = n ∧ Srt le x ∧ mU le n r := by
  cases h with
  | last h' _ => omega
  | cons hx hs hr => exact ⟨_, _, rfl, hx, hs, hr⟩

theorem mU.aA4 {β : Type} {le : β → β → Prop} {n : Nat} {l : List β} (hn : 0 < n) (h : mU le n l) (hl : 2 * n ≤ l.length) : ∃ x y r, l = x ++ y ++ r ∧ x.length = n ∧ y.length = n ∧ Srt le x ∧ Srt le y ∧ mU le n r := by
  obtain ⟨x, r, rfl, h1, h2, h3⟩ := h.split (by omega)
  simp only [List.length_append] at hl
  by_cases he : r.length = n
  · exact ⟨x, r, [], by simp, h1, he, h2, h3.srt (by omega), mU.last (by simp) List.Pairwise.nil⟩
  · obtain ⟨y, r', rfl, e1, e2, e3⟩ := h3.split (by omega)
    exact ⟨x, y, r', by simp, h1, e1, h2, e2, e3⟩

theorem Oks.perm {β : Type} {ok : β → Prop} {l l' : List β} (h : Oks ok l) (hp : l'.Perm l) : Oks ok l' := fun x hx => h x (hp.mem_iff.1 hx)

theorem aBc (C : Cmp ok le cmp) {n1 : Int} : ∀ (n : Nat) (F G : List α), G.length ≤ n → Oks ok G → n1 = ((F.length + G.length : Nat) : Int) → (F ++ G).length ≤ 1099511627776 →
    ∃ G1 G2, (G1 ++ G2).Perm G ∧ G2.length < 20 ∧ (∀ H, H.length ≤ 20 → Srt le H → mU le 20 (G1 ++ H)) ∧
      lp (fun s : List α × Int × Int => mB cmp n1 20 s.1 s.2.1 s.2.2) (F ++ G, ((F.length : Nat) : Int), ((F.length + 20 : Nat) : Int)) = some (F ++ G1 ++ G2, ((F.length + G1.length : Nat) : Int)) := by
  intro n
  induction n with
  | zero =>
    intro F G hn hG h1 hl
    refine ⟨[], G, by simp, by omega, fun H h2 h3 => mU.last (by simpa using h2) (by simpa using h3), ?_⟩
    rw [cK (r := (F ++ G, ((F.length : Nat) : Int)))]
    · simp
    · have : decide (((F.length + 20 : Nat) : Int) ≤ n1) = false := by subst h1; simp; omega
      simp only [mB, this, cond_false]
  | succ n ih =>
    intro F G hn hG h1 hl
    by_cases hg : G.length < 20
    · refine ⟨[], G, by simp, by omega, fun H h2 h3 => mU.last (by simpa using h2) (by simpa using h3), ?_⟩
      rw [cK (r := (F ++ G, ((F.length : Nat) : Int)))]
      · simp
      · have : decide (((F.length + 20 : Nat) : Int) ≤ n1) = false := by subst h1; simp; omega
        simp only [mB, this, cond_false]
    · obtain ⟨X, R, rfl, hX⟩ : ∃ X R, G = X ++ R ∧ X.length = 20 := ⟨G.take 20, G.drop 20, (List.take_append_drop _ _).symm, by rw [List.length_take]; omega⟩
      simp only [List.length_append] at hn hl h1 hg
      obtain ⟨D, d1, d2, d3⟩ := VX C (P := F) (A := X) (T := R) (a := ((F.length : Nat) : Int)) (b := ((F.length + 20 : Nat) : Int)) rfl (by rw [hX]) (fun x hx => hG x (by simp [hx])) (by simp only [List.length_append]; omega)
      have hD : D.length = 20 := by rw [d1.length_eq, hX]
      obtain ⟨G1, G2, g1, g2, g3, g4⟩ := ih (F ++ D) R (by omega) (fun x hx => hG x (by simp [hx])) (by rw [h1]; simp only [List.length_append]; congr 1; omega) (by simp only [List.length_append]; omega)
      refine ⟨D ++ G1, G2, ?_, g2, fun H h2 h3 => ?_, ?_⟩
      · have := d1.append g1
        simpa using this
      · rw [List.append_assoc]; exact mU.cons hD d2 (g3 H h2 h3)
      · have hb : (fun s : List α × Int × Int => mB cmp n1 20 s.1 s.2.1 s.2.2) (F ++ (X ++ R), ((F.length : Nat) : Int), ((F.length + 20 : Nat) : Int)) = some (.inl (F ++ D ++ R, (((F ++ D).length : Nat) : Int), (((F ++ D).length + 20 : Nat) : Int))) := by
          show mB cmp n1 20 _ _ _ = _
          have : decide (((F.length + 20 : Nat) : Int) ≤ n1) = true := by subst h1; simp; omega
          simp only [mB, this, cond_true]
          rw [show F ++ (X ++ R) = F ++ X ++ R by simp, d3]
          simp only [Option.bind_some, List.length_append, hD]
          rw [wr (by omega) (by omega)]
          congr 1
        rw [eS hb, g4]
        simp only [List.length_append, List.append_assoc]
        congr 2
        congr 1; omega

theorem aA8 (C : Cmp ok le cmp) {n1 : Int} {bs : Nat} (hbs : 0 < bs) (hbs' : bs ≤ 1099511627776) : ∀ (n : Nat) (F G : List α), G.length ≤ n → Oks ok G → mU le bs G → n1 = ((F.length + G.length : Nat) : Int) → (F ++ G).length ≤ 1099511627776 →
    ∃ G1 G2, (G1 ++ G2).Perm G ∧ G2.length < 2 * bs ∧ mU le bs G2 ∧ (∀ H, H.length ≤ 2 * bs → Srt le H → mU le (2 * bs) (G1 ++ H)) ∧
      lp (fun s : List α × Int × Int => lZ cmp n1 (bs : Int) s.1 s.2.1 s.2.2) (F ++ G, ((F.length : Nat) : Int), ((F.length + 2 * bs : Nat) : Int)) = some (F ++ G1 ++ G2, ((F.length + G1.length : Nat) : Int)) := by
  have stop : ∀ (F G : List α), mU le bs G → G.length < 2 * bs → n1 = ((F.length + G.length : Nat) : Int) → ∃ G1 G2, (G1 ++ G2).Perm G ∧ G2.length < 2 * bs ∧ mU le bs G2 ∧ (∀ H, H.length ≤ 2 * bs → Srt le H → mU le (2 * bs) (G1 ++ H)) ∧
      lp (fun s : List α × Int × Int => lZ cmp n1 (bs : Int) s.1 s.2.1 s.2.2) (F ++ G, ((F.length : Nat) : Int), ((F.length + 2 * bs : Nat) : Int)) = some (F ++ G1 ++ G2, ((F.length + G1.length : Nat) : Int)) := by
    intro F G hG hg h1
    refine ⟨[], G, by simp, hg, hG, fun H h2 h3 => mU.last (by simpa using h2) (by simpa using h3), ?_⟩
    rw [cK (r := (F ++ G, ((F.length : Nat) : Int)))]
    · simp
    · have : decide (((F.length + 2 * bs : Nat) : Int) ≤ n1) = false := by subst h1; simp; omega
      show lZ cmp n1 _ _ _ _ = _
      simp only [lZ, this, cond_false]
  intro n
  induction n with
  | zero => intro F G hn _ hB h1 _; exact stop F G hB (by omega) h1
  | succ n ih =>
    intro F G hn hG hB h1 hl
    by_cases hg : G.length < 2 * bs
    · exact stop F G hB hg h1
    · obtain ⟨x, y, R, rfl, x1, y1, sx, sy, hR⟩ := hB.aA4 hbs (by omega)
      simp only [List.length_append] at hn hl h1 hg
      obtain ⟨D, d1, d2, d3⟩ := YC C (P := F) (A := x) (B := y) (S := R) (d := F ++ (x ++ y ++ R)) (a := ((F.length : Nat) : Int)) (m := ((F.length + bs : Nat) : Int)) (b := ((F.length + 2 * bs : Nat) : Int)) (by simp) (fun h => by rw [h] at x1; simp at x1; omega) (fun h => by rw [h] at y1; simp at y1; omega)
        (fun z hz => hG z (by simp [hz])) (fun z hz => hG z (by simp [hz])) sx sy rfl (by rw [x1]) (by rw [x1, y1]; congr 1; omega) (by simp only [List.length_append]; omega)
      have hD : D.length = 2 * bs := by rw [d1.length_eq]; simp only [List.length_append]; omega
      obtain ⟨G1, G2, g1, g2, g3, g4, g5⟩ := ih (F ++ D) R (by omega) (fun z hz => hG z (by simp [hz])) hR (by rw [h1]; simp only [List.length_append]; congr 1; omega) (by simp only [List.length_append]; omega)
      refine ⟨D ++ G1, G2, ?_, g2, g3, fun H h2 h3 => ?_, ?_⟩
      · have := d1.append g1
        simpa using this
      · rw [List.append_assoc]; exact mU.cons hD d2 (g4 H h2 h3)
      · have hb : (fun s : List α × Int × Int => lZ cmp n1 (bs : Int) s.1 s.2.1 s.2.2) (F ++ (x ++ y ++ R), ((F.length : Nat) : Int), ((F.length + 2 * bs : Nat) : Int)) = some (.inl (F ++ D ++ R, (((F ++ D).length : Nat) : Int), (((F ++ D).length + 2 * bs : Nat) : Int))) := by
          show lZ cmp n1 _ _ _ _ = _
          have : decide (((F.length + 2 * bs : Nat) : Int) ≤ n1) = true := by subst h1; simp; omega
          have w1 : IntKind.i64.wrap (((F.length : Nat) : Int) + (bs : Int)) = ((F.length + bs : Nat) : Int) := by rw [wr (by omega) (by omega)]; omega
          have w2 : IntKind.i64.wrap (2 * (bs : Int)) = 2 * (bs : Int) := wr (by omega) (by omega)
          have w3 : IntKind.i64.wrap (((F.length + 2 * bs : Nat) : Int) + 2 * (bs : Int)) = ((F.length + 2 * bs + 2 * bs : Nat) : Int) := by rw [wr (by omega) (by omega)]; omega
          simp only [lZ, this, cond_true, w1, w2, w3, d3, Option.bind_some, List.length_append, hD]
        rw [eS hb, g5]
        simp only [List.length_append, List.append_assoc]
        congr 2
        congr 1; omega

theorem VD (C : Cmp ok le cmp) {d : List α} {bs : Nat} (hbs : 0 < bs) (hbs' : bs < d.length) (ho : Oks ok d) (hB : mU le bs d) (hl : d.length ≤ 1099511627776) :
    ∃ r, r.Perm d ∧ mU le (2 * bs) r ∧ jV cmp ((d.length : Nat) : Int) d (bs : Int) = some (.inl (r, ((2 * bs : Nat) : Int))) := by
  obtain ⟨G1, G2, g1, g2, g3, g4, g5⟩ := aA8 C (n1 := ((d.length : Nat) : Int)) hbs (by omega) d.length [] d (Nat.le_refl _) ho hB (by simp) (by simpa using hl)
  have hlen := g1.length_eq
  simp only [List.length_append] at hlen
  have w2 : IntKind.i64.wrap (2 * (bs : Int)) = ((2 * bs : Nat) : Int) := by rw [wr (by omega) (by omega)]; omega
  have w4 : IntKind.i64.wrap ((bs : Int) * 2) = ((2 * bs : Nat) : Int) := by rw [wr (by omega) (by omega)]; omega
  have hlt : decide ((bs : Int) < ((d.length : Nat) : Int)) = true := by simp; omega
  simp only [List.nil_append, List.length_nil, Nat.zero_add, Int.natCast_zero] at g5
  have w1 : IntKind.i64.wrap (((G1.length : Nat) : Int) + (bs : Int)) = ((G1.length + bs : Nat) : Int) := by rw [wr (by omega) (by omega)]; omega
  by_cases hg : bs < G2.length
  · obtain ⟨x, y, rfl, x1, sx, hy⟩ := g3.split hg
    simp only [List.length_append] at g2 hg hlen
    have sy : Srt le y := hy.srt (by omega)
    have og : Oks ok (G1 ++ (x ++ y)) := ho.perm g1
    obtain ⟨D, d1, d2, d3⟩ := YC C (P := G1) (A := x) (B := y) (S := []) (d := G1 ++ (x ++ y)) (a := ((G1.length : Nat) : Int)) (m := ((G1.length + bs : Nat) : Int)) (b := ((d.length : Nat) : Int)) (by simp) (fun h => by rw [h] at x1; simp at x1; omega) (fun h => by rw [h] at hg; simp at hg; omega)
      (fun z hz => og z (by simp [hz])) (fun z hz => og z (by simp [hz])) sx sy rfl (by rw [x1]) (by congr 1; omega) (by simp only [List.length_append]; omega)
    refine ⟨G1 ++ D, ?_, ?_, ?_⟩
    · exact (d1.append_left G1).trans g1
    · exact g4 D (by rw [d1.length_eq]; simp only [List.length_append]; omega) d2
    · have hc : decide (((G1.length + bs : Nat) : Int) < ((d.length : Nat) : Int)) = true := by simp; omega
      simp only [jV, hlt, cond_true, w2, vF, g5, Option.bind_some, uW, w1, hc, d3, zB, w4]
      simp
  · refine ⟨G1 ++ G2, g1, g4 G2 (by omega) (g3.srt (by omega)), ?_⟩
    have hc : decide (((G1.length + bs : Nat) : Int) < ((d.length : Nat) : Int)) = false := by simp; omega
    simp only [jV, hlt, cond_true, w2, vF, g5, Option.bind_some, uW, w1, hc, cond_false, zB, w4]

theorem XH (C : Cmp ok le cmp) : ∀ (n : Nat) (d : List α) (bs : Nat), d.length - bs ≤ n → 0 < bs → Oks ok d → mU le bs d → d.length ≤ 1099511627776 →
    ∃ r, r.Perm d ∧ Srt le r ∧ lp (fun s : List α × Int => jV cmp ((d.length : Nat) : Int) s.1 s.2) (d, (bs : Int)) = some r := by
  have stop : ∀ (d : List α) (bs : Nat), d.length ≤ bs → mU le bs d → ∃ r, r.Perm d ∧ Srt le r ∧ lp (fun s : List α × Int => jV cmp ((d.length : Nat) : Int) s.1 s.2) (d, (bs : Int)) = some r := by
    intro d bs h hB
    refine ⟨d, List.Perm.refl _, hB.srt h, cK ?_⟩
    show jV cmp _ _ _ = _
    have : decide ((bs : Int) < ((d.length : Nat) : Int)) = false := by simp; omega
    simp only [jV, this, cond_false]
  intro n
  induction n with
  | zero => intro d bs hn _ _ hB _; exact stop d bs (by omega) hB
  | succ n ih =>
    intro d bs hn hbs ho hB hl
    by_cases h : d.length ≤ bs
    · exact stop d bs h hB
    · obtain ⟨r, r1, r2, r3⟩ := VD C hbs (by omega) ho hB hl
      obtain ⟨r', e1, e2, e3⟩ := ih r (2 * bs) (by rw [r1.length_eq]; omega) (by omega) (ho.perm r1) r2 (by rw [r1.length_eq]; exact hl)
      rw [r1.length_eq] at e3
      refine ⟨r', e1.trans r1, e2, ?_⟩
      rw [eS (show (fun s : List α × Int => jV cmp ((d.length : Nat) : Int) s.1 s.2) (d, (bs : Int)) = _ from r3)]
      exact e3

theorem ME (C : Cmp ok le cmp) {d : List α} (ho : Oks ok d) (hl : d.length ≤ 1099511627776) : ∃ r, r.Perm d ∧ Srt le r ∧ wW d ((d.length : Nat) : Int) cmp = some r := by
  obtain ⟨G1, G2, g1, g2, g3, g4⟩ := aBc C (n1 := ((d.length : Nat) : Int)) d.length [] d (Nat.le_refl _) ho (by simp) (by simpa using hl)
  have hlen := g1.length_eq
  simp only [List.length_append] at hlen
  have og := ho.perm g1
  obtain ⟨D, d1, d2, d3⟩ := VX C (P := G1) (A := G2) (T := []) (a := ((G1.length : Nat) : Int)) (b := ((d.length : Nat) : Int)) rfl (by congr 1; omega) (fun z hz => og z (by simp [hz])) (by simp only [List.length_append, List.length_nil]; omega)
  have hp : (G1 ++ D).Perm d := (d1.append_left G1).trans g1
  obtain ⟨r, r1, r2, r3⟩ := XH C (G1 ++ D).length (G1 ++ D) 20 (by omega) (by omega) (ho.perm hp) (g3 D (by rw [d1.length_eq]; omega) d2) (by rw [hp.length_eq]; exact hl)
  refine ⟨r, r1.trans hp, r2, ?_⟩
  simp only [List.nil_append, List.length_nil, Nat.zero_add, Int.natCast_zero] at g4
  unfold wW zG
  have g4' : lp (fun s : List α × Int × Int => mB cmp ((d.length : Nat) : Int) 20 s.1 s.2.1 s.2.2) (d, (0 : Int), (20 : Int)) = some (G1 ++ G2, ((G1.length : Nat) : Int)) := g4
  rw [g4']
  simp only [Option.bind_some, yX]
  rw [show G1 ++ G2 = G1 ++ G2 ++ [] by simp, d3]
  simp only [Option.bind_some, zI, List.append_nil]
  rw [hp.length_eq] at r3
  have r3' : lp (fun s : List α × Int => jV cmp ((d.length : Nat) : Int) s.1 s.2) (G1 ++ D, (20 : Int)) = some r := r3
  rw [r3']; rfl

end Go.Abs
namespace Go.Abs
open Go
def zD (n : Int) : Bool := decide (n ≤ 1048576) && decide (-1048576 ≤ n)

theorem TO (n : Int) : vK n = some (zD n) := rfl

def uS (last : Int) (j : aB) : Bool := decide (j.At ≤ last) || decide (1125899906842624 ≤ j.At) || decide (j.Net = 0) || !zD j.Net

def chk (last : Int) : List aB → Bool
  | [] => true
  | j :: r => !uS last j && chk j.At r

def lH (f : List aB) : Bool := decide (f.length ≤ 1024) && chk (-2) f

theorem OC {f : List aB} {i : Nat} {a : aB} {last : Int} (ha : f[i]? = some a) (hl : f.length < 4611686018427387904) :
    mA f (f.length : Nat) last i = some (if uS last a then .inr (.inr false) else .inl (a.At, ((i + 1 : Nat) : Int))) := by
  obtain ⟨d1, d2, d3, d4⟩ := idx ha hl
  simp only [mA, d1, cond_true, aW d2, d3, d4, TO]
  unfold uS
  cases h : (decide (a.At ≤ last) || decide (1125899906842624 ≤ a.At) || decide (a.Net = 0)) <;> cases h2 : zD a.Net <;> simp [cN]

theorem QM : ∀ (f : List aB) (last : Int), wA (fun last (j : aB) => some (if uS last j then .inr (.inr false) else .inl j.At)) (fun _ => (.inl () : Unit ⊕ Bool)) last f = some (if chk last f then .inl () else .inr false)
  | [], last => by simp [wA, chk]
  | j :: r, last => by
    cases h : uS last j
    · rw [UK (s' := j.At) (by simp [h])]
      rw [QM r j.At]
      simp [chk, h]
    · rw [UR (x := .inr false) (by simp [h])]
      simp [chk, h]

theorem JV (f : List aB) : oL f = some (lH f) := by
  unfold oL lH
  by_cases hl : f.length ≤ 1024
  · have h1 : decide ((1024 : Int) < ((f.length : Nat) : Int)) = false := by simp; omega
    rw [h1, cond_false]
    unfold zA
    have key := ZP (l := f) (body := fun s : Int × Int => mA f (f.length : Nat) s.1 s.2) (fun last i => (last, i)) _ _
      (fun i a s ha => by
        constructor
        · intro s' hs
          show mA f (f.length : Nat) s i = _
          rw [OC ha (by omega)]
          split at hs <;> simp_all
        · intro x hs
          show mA f (f.length : Nat) s i = _
          rw [OC ha (by omega)]
          split at hs <;> simp_all)
      (fun s => by show mA f (f.length : Nat) s (f.length : Nat) = _; simp only [mA, dY, cond_false]) (QM f (-2))
    rw [key]
    cases h : chk (-2) f <;> simp [vH, hl]
  · have h1 : decide ((1024 : Int) < ((f.length : Nat) : Int)) = true := by simp; omega
    rw [h1, cond_true]
    simp [hl]

theorem AG {last : Int} {j : aB} : uS last j = false ↔ last < j.At ∧ j.At < 1125899906842624 ∧ j.Net ≠ 0 ∧ j.Net ≤ 1048576 ∧ -1048576 ≤ j.Net := by
  simp [uS, zD]
  omega

def xY (last : Int) : List aB → Prop
  | [] => True
  | j :: r => (last < j.At ∧ j.At < 1125899906842624 ∧ j.Net ≠ 0 ∧ j.Net ≤ 1048576 ∧ -1048576 ≤ j.Net) ∧ xY j.At r

theorem TX : ∀ {f : List aB} {last : Int}, chk last f = true ↔ xY last f
  | [], last => by simp [chk, xY]
  | j :: r, last => by simp [chk, xY, AG, TX]

theorem AZ {f : List aB} : lH f = true ↔ f.length ≤ 1024 ∧ xY (-2) f := by simp [lH, TX]

theorem xY.above : ∀ {f : List aB} {last : Int}, xY last f → ∀ j ∈ f, last < j.At ∧ j.At < 1125899906842624 ∧ j.Net ≠ 0 ∧ j.Net ≤ 1048576 ∧ -1048576 ≤ j.Net
  | [], _, _, j, hj => by simp at hj
  | a :: r, last, h, j, hj => by
    rcases List.mem_cons.1 hj with rfl | hj
    · exact h.1
    · have := h.2.above j hj
      have h1 := h.1.1
      exact ⟨by omega, this.2⟩

def val (f : List aB) (t : Int) : Int := (f.map fun j => if j.At ≤ t then j.Net else 0).sum

theorem wS (t : Int) : val [] t = 0 := rfl

theorem dB (j : aB) (r : List aB) (t : Int) : val (j :: r) t = (if j.At ≤ t then j.Net else 0) + val r t := by simp [val]

theorem KA (f g : List aB) (t : Int) : val (f ++ g) t = val f t + val g t := by simp [val]

theorem MO : ∀ {f : List aB} {b : Int} (t : Int), 0 ≤ b → (∀ j ∈ f, j.Net ≤ b ∧ -b ≤ j.Net) → val f t ≤ b * f.length ∧ -(b * f.length) ≤ val f t
  | [], b, t, _, _ => by simp [val]
  | j :: r, b, t, hb, h => by
    obtain ⟨h1, h2⟩ := MO t hb (fun k hk => h k (List.mem_cons_of_mem _ hk))
    have h3 := h j (List.mem_cons_self ..)
    rw [dB]
    simp only [List.length_cons, Int.natCast_add, Int.natCast_one, Int.mul_add, Int.mul_one]
    split <;> omega

theorem zP {f : List aB} {t : Int} (h : ∀ j ∈ f, t < j.At) : val f t = 0 := by
  induction f with
  | nil => rfl
  | cons j r ih =>
    rw [dB, ih (fun k hk => h k (List.mem_cons_of_mem _ hk))]
    have := h j (List.mem_cons_self ..)
    rw [if_neg (by omega)]; rfl

theorem aAQ (f : List aB) : sQ f = some (if lH f then (f, 0) else ([], 7)) := by
  unfold sQ
  rw [JV]
  cases h : lH f <;> simp

end Go.Abs
namespace Go.Abs
open Go
section both
variable {op : Int → Int → Option Int} {f g r : List aB} {out : List aB} {a b was t : Int} {j : aB}
end both
def emit (p v was : Int) : List aB := if v = was then [] else [⟨p, v - was⟩]

def qX (was : Int) : List (Int × Int) → List aB
  | [] => []
  | x :: r => emit x.1 x.2 was ++ qX x.2 r

def merge (f g : List aB) (a b : Int) : List (Int × Int × Int) :=
  match f, g with
  | [], [] => []
  | j :: f, [] => (j.At, a + j.Net, b) :: merge f [] (a + j.Net) b
  | [], k :: g => (k.At, a, b + k.Net) :: merge [] g a (b + k.Net)
  | j :: f, k :: g =>
    if j.At < k.At then (j.At, a + j.Net, b) :: merge f (k :: g) (a + j.Net) b
    else if k.At < j.At then (k.At, a, b + k.Net) :: merge (j :: f) g a (b + k.Net)
    else (j.At, a + j.Net, b + k.Net) :: merge f g (a + j.Net) (b + k.Net)

termination_by f.length + g.length
end Go.Abs
namespace Go.Abs
open Go
def comb (OP : Int → Int → Int) (f g : List aB) : List aB := qX 0 ((merge f g 0 0).map fun x => (x.1, OP x.2.1 x.2.2))

def told (f : List aB) : List aB × Int := if lH f then (f, 0) else ([], 7)

theorem ZE (f : List aB) : sQ f = some (told f) := aAQ f

def two (OP : Int → Int → Int) (f g : List aB) : List aB × Int := if lH f && lH g then told (comb OP f g) else ([], 2)

end Go.Abs
namespace Go.Abs
open Go
theorem YY (p v was t : Int) : val (emit p v was) t = if p ≤ t then v - was else 0 := by
  unfold emit
  by_cases h : v = was
  · rw [if_pos h, wS, h]; split <;> omega
  · rw [if_neg h, dB, wS]; simp

theorem xY.yL {l t : Int} {f : List aB} (h : xY l f) (ht : t ≤ l) : val f t = 0 := zP fun j hj => by have := (h.above j hj).1; omega

end Go.Abs
namespace Go.Abs
open Go
def vE (f : List aB) : Nat → Int
  | 0 => -2
  | k + 1 => (f.getD k default).At

theorem SV {f : List aB} {i : Nat} {a : aB} {last : Int} (ha : f[i]? = some a) (hl : f.length ≤ 1024) (hlast : last = vE f i) (hp : -2 ≤ last) (hp' : 0 < i → -1 ≤ last) :
    lG f i = some (if uS last a then .inr (.inr false) else .inl ((i + 1 : Nat) : Int)) := by
  obtain ⟨d1, d2, d3, d4⟩ := idx ha (by omega)
  have hlt : i < f.length := (List.getElem?_eq_some_iff.1 ha).1
  simp only [lG, d1, cond_true, d3, d4]
  rw [aW d2, aW (fun _ => d2), aW (fun _ => d2), aW (fun _ => d2), aW (fun _ => d2), aW (fun _ => d2)]
  cases i with
  | zero =>
    rw [aW (fun h => by simp at h)]
    have hm2 : last = -2 := hlast
    subst hm2
    by_cases hb : uS (-2) a = true
    · rw [if_pos hb]
      have hx : (((((decide (a.At < -1)) || (decide (1125899906842624 ≤ a.At))) || (decide (a.Net = 0))) || (decide (1048576 < a.Net))) || (decide (a.Net < -1048576))) = true := by
        simp [uS, zD] at hb ⊢; omega
      rw [hx, cond_true]
    · have hb' : uS (-2) a = false := by simpa using hb
      rw [if_neg hb]
      rw [AG] at hb'
      have hx : (((((decide (a.At < -1)) || (decide (1125899906842624 ≤ a.At))) || (decide (a.Net = 0))) || (decide (1048576 < a.Net))) || (decide (a.Net < -1048576))) = false := by
        simp; omega
      rw [hx, cond_false]
      simp
  | succ k =>
    have hw : IntKind.i64.wrap (((k + 1 : Nat) : Int) - 1) = (k : Int) := by rw [jJ (by omega) (by omega)]; omega
    have hg : List.getD f (Int.toNat (k : Int)) default = f.getD k default := by rw [Int.toNat_natCast]
    rw [hw, hg, aW (fun _ => ⟨by omega, by omega⟩)]
    have hpos : decide ((0 : Int) < ((k + 1 : Nat) : Int)) = true := by simp
    have hp1 := hp' (by omega)
    have hl2 : (f.getD k default).At = last := hlast.symm
    rw [hpos, Bool.true_and, hl2]
    by_cases hb : uS last a = true
    · rw [if_pos hb]
      by_cases hx : (((((decide (a.At < -1)) || (decide (1125899906842624 ≤ a.At))) || (decide (a.Net = 0))) || (decide (1048576 < a.Net))) || (decide (a.Net < -1048576))) = true
      · rw [hx, cond_true]
      · have hx' : (((((decide (a.At < -1)) || (decide (1125899906842624 ≤ a.At))) || (decide (a.Net = 0))) || (decide (1048576 < a.Net))) || (decide (a.Net < -1048576))) = false := by simpa using hx
        have hy : decide (a.At ≤ last) = true := by
          simp [uS, zD] at hb hx' ⊢; omega
        rw [hx', cond_false, hy, cond_true]
    · have hb' : uS last a = false := by simpa using hb
      rw [if_neg hb]
      rw [AG] at hb'
      have hx : (((((decide (a.At < -1)) || (decide (1125899906842624 ≤ a.At))) || (decide (a.Net = 0))) || (decide (1048576 < a.Net))) || (decide (a.Net < -1048576))) = false := by
        simp; omega
      have hy : decide (a.At ≤ last) = false := by simp; omega
      rw [hx, cond_false, hy, cond_false]

theorem LU {f : List aB} (hl : f.length ≤ 1024) : ∀ (m k : Nat), f.length - k = m → k ≤ f.length → -2 ≤ vE f k → (0 < k → -1 ≤ vE f k) → lp (fun s => lG f s) (k : Int) = some (if chk (vE f k) (f.drop k) = true then .inl () else .inr false)
  | 0, k, hm, hk, _, _ => by
    have : k = f.length := by omega
    subst this
    rw [List.drop_length]
    refine cK ?_
    show lG f _ = _
    simp [lG, chk]
  | m + 1, k, hm, hk, hp, hp' => by
    have h1 : k < f.length := by omega
    have hb := SV (List.getElem?_eq_getElem h1) hl rfl hp hp'
    have e1 : f.drop k = f[k] :: f.drop (k + 1) := List.drop_eq_getElem_cons h1
    have hpa : vE f (k + 1) = f[k].At := by simp [vE, List.getD_eq_getElem?_getD, h1]
    rw [e1]
    by_cases h : uS (vE f k) f[k] = true
    · rw [if_pos h] at hb
      rw [cK (show (fun s => lG f s) (k : Int) = _ from hb)]
      simp [chk, h]
    · rw [if_neg h] at hb
      have h' : uS (vE f k) f[k] = false := by simpa using h
      have := AG.1 h'
      rw [eS (show (fun s => lG f s) (k : Int) = _ from hb), LU hl m (k + 1) (by omega) (by omega) (by rw [hpa]; omega) (fun _ => by rw [hpa]; omega), hpa]
      simp [chk, h']

theorem MS (f : List aB) : sO f = some (lH f) := by
  unfold sO lH
  by_cases hl : f.length ≤ 1024
  · have h1 : decide ((1024 : Int) < ((f.length : Nat) : Int)) = false := by simp; omega
    rw [h1, cond_false]
    unfold xJ
    have := LU hl f.length 0 rfl (Nat.zero_le _) (by simp [vE]) (by omega)
    simp only [Int.natCast_zero, List.drop_zero, vE] at this
    rw [this]
    cases h : chk (-2) f <;> simp [tV, hl]
  · have h1 : decide ((1024 : Int) < ((f.length : Nat) : Int)) = true := by simp; omega
    rw [h1, cond_true]
    simp [hl]

end Go.Abs
namespace Go.Abs
open Go
def VJ (f : List aB) : Int := (f.map aB.Net).sum

def LD (t : Int) : List aB → List aB
  | [] => []
  | j :: r => if t ≤ j.At then [] else j :: LD t r

def aft (t : Int) : List aB → List aB
  | [] => []
  | j :: r => if t ≤ j.At then j :: r else aft t r

def aAX (t : Int) (f : List aB) : List aB := LD t f ++ (if VJ (LD t f) = 0 then [] else [⟨t, -VJ (LD t f)⟩])

def ahead (f : List aB) (t : Int) : List aB × Int :=
  if lH f then (if 1125899906842624 ≤ t then (f, 0) else told (aAX t f)) else ([], 2)

end Go.Abs
namespace Go.Abs
open Go
def aBm (t : Int) (f : List aB) : List aB := (if VJ (LD t f) = 0 then [] else [⟨-1, VJ (LD t f)⟩]) ++ aft t f

def rest (f : List aB) (t : Int) : List aB × Int :=
  if lH f then (if 1125899906842624 ≤ t then ([], 0) else if t ≤ -1 then (f, 0) else told (aBm t f)) else ([], 2)

end Go.Abs
namespace Go.Abs
open Go
def Up (last : Int) : List aB → Prop
  | [] => True
  | j :: r => (last < j.At ∧ j.At < 1125899906842624 ∧ j.Net ≠ 0) ∧ Up j.At r

theorem Up.above : ∀ {f : List aB} {last : Int}, Up last f → ∀ j ∈ f, last < j.At ∧ j.At < 1125899906842624 ∧ j.Net ≠ 0
  | [], _, _, j, hj => by simp at hj
  | a :: r, last, h, j, hj => by
    rcases List.mem_cons.1 hj with rfl | hj
    · exact h.1
    · have := h.2.above j hj
      have h1 := h.1.1
      exact ⟨by omega, this.2⟩

theorem Up.yL {l t : Int} {f : List aB} (h : Up l f) (ht : t ≤ l) : val f t = 0 := zP fun j hj => by have := (h.above j hj).1; omega

theorem Up.weaken {a b : Int} {f : List aB} (h : Up b f) (hab : a ≤ b) : Up a f := by
  cases f with
  | nil => trivial
  | cons j r => exact ⟨⟨by have := h.1.1; omega, h.1.2⟩, h.2⟩

theorem xY.up : ∀ {f : List aB} {last : Int}, xY last f → Up last f
  | [], _, _ => trivial
  | _ :: _, _, h => ⟨⟨h.1.1, h.1.2.1, h.1.2.2.1⟩, h.2.up⟩

theorem Up.ext : ∀ {f g : List aB} {last : Int}, Up last f → Up last g → (∀ t, last < t → t < 1125899906842624 → val f t = val g t) → f = g
  | [], [], _, _, _, _ => rfl
  | j :: r, [], last, hf, _, h => by
    have := h j.At hf.1.1 hf.1.2.1
    rw [dB, if_pos (Int.le_refl _), hf.2.yL (Int.le_refl _), wS] at this
    exact absurd (by omega) hf.1.2.2
  | [], k :: s, last, _, hg, h => by
    have := h k.At hg.1.1 hg.1.2.1
    rw [dB, if_pos (Int.le_refl _), hg.2.yL (Int.le_refl _), wS] at this
    exact absurd (by omega) hg.1.2.2
  | j :: r, k :: s, last, hf, hg, h => by
    have h1 := h j.At hf.1.1 hf.1.2.1
    have h2 := h k.At hg.1.1 hg.1.2.1
    rw [dB, if_pos (Int.le_refl _), hf.2.yL (Int.le_refl _), dB] at h1
    rw [dB, dB k, if_pos (Int.le_refl _), hg.2.yL (Int.le_refl _)] at h2
    have n1 := hf.1.2.2
    have n2 := hg.1.2.2
    have he : j.At = k.At := by
      rcases Int.lt_trichotomy j.At k.At with h3 | h3 | h3
      · rw [if_neg (by omega), hg.2.yL (by omega)] at h1; omega
      · exact h3
      · rw [if_neg (by omega), hf.2.yL (by omega)] at h2; omega
    rw [if_pos (by omega), hg.2.yL (by omega)] at h1
    have hj : j = k := by
      obtain ⟨a, b⟩ := j; obtain ⟨c, d⟩ := k
      simp only at he h1
      simp only [Int.add_zero] at h1
      rw [he, h1]
    subst hj
    rw [hf.2.ext hg.2 (fun t ht ht' => by
      have := h t (by have := hf.1.1; omega) ht'
      rw [dB, dB] at this; omega)]

def Inc (last : Int) : List Int → Prop
  | [] => True
  | p :: r => (last < p ∧ p < 1125899906842624) ∧ Inc p r

theorem Inc.above : ∀ {ps : List Int} {last : Int}, Inc last ps → ∀ p ∈ ps, last < p ∧ p < 1125899906842624
  | [], _, _, j, hj => by simp at hj
  | a :: r, last, h, j, hj => by
    rcases List.mem_cons.1 hj with rfl | hj
    · exact h.1
    · have := h.2.above j hj
      have h1 := h.1.1
      exact ⟨by omega, this.2⟩

theorem EH : ∀ {l : List (Int × Int)} {last was : Int}, Inc last (l.map Prod.fst) → Up last (qX was l)
  | [], _, _, _ => trivial
  | x :: r, last, was, h => by
    simp only [qX]
    have ih : Up x.1 (qX x.2 r) := EH h.2
    have h1 : last < x.1 ∧ x.1 < 1125899906842624 := h.1
    unfold emit
    split
    · exact ih.weaken (by omega)
    · exact ⟨⟨h1.1, h1.2, by simp only; omega⟩, ih⟩

theorem FZ {F : Int → Int} : ∀ {ps : List Int} {last : Int}, Inc last ps → (∀ s t, last ≤ s → s ≤ t → t < 1125899906842624 → (∀ p ∈ ps, ¬ (s < p ∧ p ≤ t)) → F s = F t) →
    ∀ t, last ≤ t → t < 1125899906842624 → val (qX (F last) (ps.map fun p => (p, F p))) t = F t - F last
  | [], last, _, hF, t, h1, h2 => by
    have := hF last t (Int.le_refl _) h1 h2 (by simp)
    simp [qX, val, this]
  | p :: r, last, hi, hF, t, h1, h2 => by
    simp only [List.map_cons, qX]
    rw [KA, YY]
    by_cases hp : p ≤ t
    · rw [if_pos hp, FZ (F := F) hi.2 (fun s t' hs hst ht' hn => hF s t' (by have := hi.1.1; omega) hst ht' (fun q hq => by
        rcases List.mem_cons.1 hq with rfl | hq
        · omega
        · exact hn q hq)) t hp h2]
      omega
    · have := hF last t (Int.le_refl _) h1 h2 (fun q hq => by
        rcases List.mem_cons.1 hq with rfl | hq
        · omega
        · have := (hi.2.above q hq).1; omega)
      rw [if_neg hp, Up.yL (EH (last := p) (by rw [List.map_map]; simpa [Function.comp_def] using hi.2)) (by omega)]
      omega

theorem ZO {F : Int → Int} (h2 : F (-2) = 0) {ps : List Int} (hi : Inc (-2) ps) (hF : ∀ s t, -2 ≤ s → s ≤ t → t < 1125899906842624 → (∀ p ∈ ps, ¬ (s < p ∧ p ≤ t)) → F s = F t) {h : List aB} (hh : Up (-2) h) (hv : ∀ t, -2 < t → t < 1125899906842624 → val h t = F t) :
    qX 0 (ps.map fun p => (p, F p)) = h := by
  refine (EH (by rw [List.map_map]; simpa [Function.comp_def] using hi)).ext hh fun t h3 h4 => ?_
  have := FZ hi hF t (by omega) h4
  rw [h2] at this
  rw [this, hv t h3 h4]; omega

end Go.Abs
namespace Go.Abs
open Go
theorem HV {f : List aB} (t : Int) (hb : ∀ j ∈ f, j.Net ≤ 1048576 ∧ -1048576 ≤ j.Net) (hl : f.length ≤ 1099511627776) : nV f t = some (val f t) := by
  unfold nV uJ
  rw [nR (l := f) (body := fun s : Int × Int => jI f t s.1 s.2) (fun v i => (v, i)) (fun v r => v + val r t)
    (fun v r => (∀ j ∈ r, j.Net ≤ 1048576 ∧ -1048576 ≤ j.Net) ∧ r.length ≤ 1099511627776 ∧ v ≤ 1048576 * (1099511627776 - r.length) ∧ -(1048576 * (1099511627776 - r.length)) ≤ v) 0 ?_ ?_ ?_]
  · simp [qL]
  · intro i a r v ha ⟨h1, h2, h3, h4⟩
    obtain ⟨d1, d2, d3, d4⟩ := idx ha (by omega)
    have hj := h1 a (List.mem_cons_self ..)
    simp only [List.length_cons] at h2 h3 h4
    left
    by_cases h : a.At ≤ t
    · refine ⟨v + a.Net, ?_, ⟨fun j hj => h1 j (List.mem_cons_of_mem _ hj), by omega, by omega, by omega⟩, ?_⟩
      · show jI f t v i = _
        have hw : IntKind.i64.wrap (v + a.Net) = v + a.Net := jJ (by omega) (by omega)
        simp only [jI, oU, d1, cond_true, aW d2, d3, d4, h, decide_true, hw]
      · show v + a.Net + val r t = v + val (a :: r) t
        rw [dB, if_pos h]; omega
    · refine ⟨v, ?_, ⟨fun j hj => h1 j (List.mem_cons_of_mem _ hj), by omega, by omega, by omega⟩, ?_⟩
      · show jI f t v i = _
        simp only [jI, oU, d1, cond_true, aW d2, d3, d4, h, decide_false, cond_false]
      · show v + val r t = v + val (a :: r) t
        rw [dB, if_neg h]; omega
  · intro s _
    show jI f t s (f.length : Nat) = _
    simp only [jI, dY, cond_false]
    simp [val]
  · exact ⟨hb, hl, by omega, by omega⟩

theorem PZ {f : List aB} (h : lH f = true) : ∀ j ∈ f, j.Net ≤ 1048576 ∧ -1048576 ≤ j.Net := fun j hj => by have := (AZ.1 h).2.above j hj; omega

theorem PD {f : List aB} (h : lH f = true) (t : Int) : nV f t = some (val f t) :=
  HV t (PZ h) (by have := (AZ.1 h).1; omega)

def nK (t : Int) : List Int → List Int
  | [] => [t]
  | p :: r => if p = t then p :: r else if t < p then t :: p :: r else p :: nK t r

theorem LX {t x : Int} : ∀ {ps : List Int}, x ∈ nK t ps ↔ x = t ∨ x ∈ ps
  | [] => by simp [nK]
  | p :: r => by
    unfold nK
    split
    · rename_i h; subst h; simp
    · split
      · simp
      · simp only [List.mem_cons, LX (ps := r)]; constructor <;> (intro h; rcases h with h | h | h <;> simp [h])

theorem GH {t : Int} : ∀ {ps : List Int} {last : Int}, Inc last ps → last < t → t < 1125899906842624 → Inc last (nK t ps)
  | [], last, _, h1, h2 => ⟨⟨h1, h2⟩, trivial⟩
  | p :: r, last, h, h1, h2 => by
    unfold nK
    split
    · exact h
    · split
      · rename_i h3 h4
        exact ⟨⟨h1, h2⟩, ⟨h4, h.1.2⟩, h.2⟩
      · exact ⟨h.1, GH h.2 (by omega) h2⟩

theorem FC {t : Int} : ∀ {ps : List Int}, (nK t ps).length ≤ ps.length + 1
  | [] => by simp [nK]
  | p :: r => by
    unfold nK
    split
    · simp
    · split
      · simp
      · simp only [List.length_cons]; have := FC (t := t) (ps := r); omega

theorem EZ {t : Int} : ∀ {ps : List Int}, (∀ x ∈ ps, x < t) → nK t ps = ps ++ [t]
  | [], _ => rfl
  | p :: r, h => by
    have := h p (List.mem_cons_self ..)
    unfold nK
    rw [if_neg (by omega), if_neg (by omega), EZ (fun x hx => h x (List.mem_cons_of_mem _ hx))]; rfl

theorem JT {t : Int} : ∀ {ps : List Int} {last : Int}, Inc last ps → t ∈ ps → nK t ps = ps
  | [], _, _, h => by simp at h
  | p :: r, last, hi, h => by
    unfold nK
    split
    · rfl
    · rename_i hp
      rcases List.mem_cons.1 h with h | h
      · exact absurd h.symm hp
      · have := (hi.2.above t h).1
        rw [if_neg (by omega), JT hi.2 h]

theorem XA {l out : List Int} {t a : Int} {put : Bool} {i : Nat} (ha : l[i]? = some a) (hl : l.length ≤ 1099511627776) (ho : out.length ≤ 2199023255552) :
    gY l t out put i = some (if a = t then .inr (.inr l) else if t < a ∧ put = false then .inl (out ++ [t] ++ [a], true, ((i + 1 : Nat) : Int)) else .inl (out ++ [a], put, ((i + 1 : Nat) : Int))) := by
  obtain ⟨d1, d2, d3, d4⟩ := idx ha (by omega)
  simp only [gY, rY, d1, cond_true, aW d2, d3, d4]
  by_cases h1 : a = t
  · simp [h1]
  · rw [decide_eq_false h1, cond_false, if_neg h1]
    by_cases h2 : t < a
    · cases put
      · simp only [h2, decide_true, Bool.not_false, Bool.and_self, cond_true, and_self, if_true]
        rw [aW (by simp only [List.length_cons, List.length_nil]; omega), aW (by simp only [List.length_append, List.length_cons, List.length_nil]; omega)]
      · simp only [h2, decide_true, Bool.not_true, Bool.and_false, cond_false, and_false, if_false, reduceCtorEq]
        rw [aW (by simp only [List.length_cons, List.length_nil]; omega)]
    · simp only [h2, decide_false, Bool.false_and, cond_false, false_and, if_false]
      rw [aW (by simp only [List.length_cons, List.length_nil]; omega)]

theorem aAi {l : List Int} {last t : Int} (hi : Inc last l) (hl : l.length ≤ 1099511627776) : qO l t = some (nK t l) := by
  unfold qO vO
  rw [nR (l := l) (body := fun s : List Int × Bool × Int => gY l t s.1 s.2.1 s.2.2) (fun (s : List Int × Bool) i => (s.1, s.2, i))
    (fun s r => if s.2 then .inl (s.1 ++ r, true) else if t ∈ r then .inr l else if (∃ x ∈ r, t < x) then .inl (s.1 ++ nK t r, true) else .inl (s.1 ++ r, false))
    (fun s r => (∃ m, Inc m r) ∧ (s.2 = true → ∀ x ∈ r, t < x) ∧ r.length ≤ 1099511627776 ∧ s.1.length + r.length ≤ 1099511627777 + (if s.2 then 1 else 0)) ([], false) ?_ ?_ ?_]
  · simp only [Bool.false_eq_true, if_false, List.nil_append, Option.bind_some]
    by_cases h1 : t ∈ l
    · simp [h1, JT hi h1]
    · simp only [h1, if_false]
      by_cases h2 : ∃ x ∈ l, t < x
      · simp only [h2, if_true]
        simp [pV, pN]
      · simp only [h2, if_false]
        have : ∀ x ∈ l, x < t := fun x hx => by
          have h3 : ¬ t < x := fun h => h2 ⟨x, hx, h⟩
          have h4 : x ≠ t := fun h => h1 (h ▸ hx)
          omega
        rw [EZ this]
        simp only [Sum.elim_inl, pV, pN, Bool.not_false, cond_true]
        rw [aW (by simp only [List.length_cons, List.length_nil]; omega)]
  · rintro i a r ⟨out, put⟩ ha ⟨⟨m, hm⟩, h1, h2, h3⟩
    simp only [List.length_cons] at h2 h3
    have hb := XA (t := t) (put := put) (out := out) ha hl (by split at h3 <;> omega)
    have hab : ∀ x ∈ r, a < x := fun x hx => (hm.2.above x hx).1
    cases put
    · by_cases e : a = t
      · right
        show gY l t out false i = _
        rw [hb]; simp [e]
      · left
        by_cases e2 : t < a
        · have hnt : t ∉ a :: r := fun h => by
            rcases List.mem_cons.1 h with h | h
            · exact e h.symm
            · have := hab t h; omega
          refine ⟨(out ++ [t] ++ [a], true), ?_, ⟨⟨a, hm.2⟩, fun _ x hx => by have := hab x hx; omega, by omega, by simp only [List.length_append, List.length_cons, List.length_nil, Bool.false_eq_true, if_false, if_true] at h3 ⊢; omega⟩, ?_⟩
          · show gY l t out false i = _
            rw [hb]; simp [e, e2]
          · have hex : ∃ x ∈ a :: r, t < x := ⟨a, List.mem_cons_self .., e2⟩
            simp only [if_true, Bool.false_eq_true, if_false, hnt, hex]
            simp [nK, e, e2]
        · refine ⟨(out ++ [a], false), ?_, ⟨⟨a, hm.2⟩, fun h => absurd h (by simp), by omega, by simp only [List.length_append, List.length_cons, List.length_nil, Bool.false_eq_true, if_false] at h3 ⊢; omega⟩, ?_⟩
          · show gY l t out false i = _
            rw [hb]; simp [e, e2]
          · have i1 : (t ∈ a :: r) ↔ t ∈ r := by simp only [List.mem_cons]; constructor; (intro h; rcases h with h | h; exact absurd h.symm e; exact h); exact Or.inr
            have i2 : (∃ x ∈ a :: r, t < x) ↔ (∃ x ∈ r, t < x) := by
              constructor
              · rintro ⟨x, hx, hx'⟩
                rcases List.mem_cons.1 hx with rfl | hx
                · exact absurd hx' e2
                · exact ⟨x, hx, hx'⟩
              · rintro ⟨x, hx, hx'⟩; exact ⟨x, List.mem_cons_of_mem _ hx, hx'⟩
            simp only [Bool.false_eq_true, if_false, i1, i2]
            simp [nK, e, e2]
    · left
      have ht := h1 rfl a (List.mem_cons_self ..)
      refine ⟨(out ++ [a], true), ?_, ⟨⟨a, hm.2⟩, fun _ x hx => h1 rfl x (List.mem_cons_of_mem _ hx), by omega, by simp only [List.length_append, List.length_cons, List.length_nil, if_true] at h3 ⊢; omega⟩, ?_⟩
      · show gY l t out true i = _
        have : a ≠ t := by omega
        rw [hb]; simp [this]
      · simp
  · rintro ⟨out, put⟩ _
    show gY l t out put (l.length : Nat) = _
    simp only [gY, dY, cond_false]
    cases put <;> simp
  · exact ⟨⟨last, hi⟩, fun h => absurd h (by simp), hl, by simp only [List.length_nil]; simp; omega⟩

def yO (ps : List Int) (f : List aB) : List Int := f.foldl (fun ps j => nK j.At ps) ps

theorem HZ {x : Int} : ∀ {f : List aB} {ps : List Int}, x ∈ yO ps f ↔ x ∈ ps ∨ ∃ j ∈ f, j.At = x
  | [], ps => by simp [yO]
  | k :: r, ps => by
    have := HZ (x := x) (f := r) (ps := nK k.At ps)
    unfold yO at this ⊢
    rw [List.foldl_cons, this, LX]
    constructor
    · rintro ((h | h) | ⟨j, h, h'⟩)
      · exact Or.inr ⟨k, List.mem_cons_self .., h.symm⟩
      · exact Or.inl h
      · exact Or.inr ⟨j, List.mem_cons_of_mem _ h, h'⟩
    · rintro (h | ⟨j, h, h'⟩)
      · exact Or.inl (Or.inr h)
      · rcases List.mem_cons.1 h with rfl | h
        · exact Or.inl (Or.inl h'.symm)
        · exact Or.inr ⟨j, h, h'⟩

theorem QK : ∀ {f : List aB} {ps : List Int} {last : Int}, Inc last ps → (∀ j ∈ f, last < j.At ∧ j.At < 1125899906842624) → Inc last (yO ps f)
  | [], _, _, h, _ => h
  | k :: r, ps, last, h, hf => by
    have hk := hf k (List.mem_cons_self ..)
    exact QK (f := r) (GH h hk.1 hk.2) fun j hj => hf j (List.mem_cons_of_mem _ hj)

theorem QO : ∀ {f : List aB} {ps : List Int}, (yO ps f).length ≤ ps.length + f.length
  | [], ps => by simp [yO]
  | k :: r, ps => by
    have := QO (f := r) (ps := nK k.At ps)
    have h2 := FC (t := k.At) (ps := ps)
    unfold yO at this ⊢
    rw [List.foldl_cons]; simp only [List.length_cons]; omega

theorem UP {ps : List Int} {F : Int → Int} (hl : ps.length ≤ 1099511627776) (hb : ∀ p ∈ ps, -2305843009213693952 ≤ F p ∧ F p ≤ 2305843009213693952) :
    tW ps (ps.map F) = some (told (qX 0 (ps.map fun p => (p, F p)))) := by
  unfold tW vT
  rw [nR (l := ps) (body := fun s : List aB × Int × Int => mR ps (ps.map F) s.1 s.2.1 s.2.2) (fun (s : List aB × Int) i => (s.1, s.2, i))
    (fun s r => s.1 ++ qX s.2 (r.map fun p => (p, F p))) (fun s r => (∀ p ∈ r, -2305843009213693952 ≤ F p ∧ F p ≤ 2305843009213693952) ∧ (-2305843009213693952 ≤ s.2 ∧ s.2 ≤ 2305843009213693952) ∧ s.1.length + r.length ≤ 1099511627776) ([], 0) ?_ ?_ ?_]
  · simp only [List.nil_append, Option.bind_some, rR, MS, told]
    cases h : lH (qX 0 (ps.map fun p => (p, F p))) <;> simp
  · rintro i a r ⟨out, was⟩ ha ⟨h1, h2, h3⟩
    simp only [List.length_cons] at h2 h3
    obtain ⟨d1, d2, d3, d4⟩ := idx ha (by omega)
    have ha' : (ps.map F)[i]? = some (F a) := by rw [List.getElem?_map, ha]; rfl
    obtain ⟨_, e2, e3, _⟩ := idx ha' (by rw [List.length_map]; omega)
    have hF := h1 a (List.mem_cons_self ..)
    left
    refine ⟨(out ++ emit a (F a) was, F a), ?_, ⟨fun p hp => h1 p (List.mem_cons_of_mem _ hp), hF, ?_⟩, ?_⟩
    · show mR ps (ps.map F) out was i = _
      have hw : IntKind.i64.wrap (F a - was) = F a - was := jJ (by omega) (by omega)
      simp only [mR, sD, d1, cond_true, aW d2, aW e2, e3, d3, d4, hw]
      unfold emit
      by_cases h : F a = was
      · simp [h]
      · simp only [h, decide_false, Bool.not_false, cond_true, if_false]
        rw [aW (by simp only [List.length_cons, List.length_nil]; omega)]
    · have : (emit a (F a) was).length ≤ 1 := by unfold emit; split <;> simp
      simp only [List.length_append]; omega
    · simp [qX]
  · rintro ⟨out, was⟩ _
    show mR ps (ps.map F) out was (ps.length : Nat) = _
    simp only [mR, dY, cond_false]
    simp [qX]
  · exact ⟨hb, ⟨by omega, by omega⟩, by simp only [List.length_nil]; omega⟩

theorem SJ {ps : List Int} {F : Int → Int} {body : List Int × Int → Option ((List Int × Int) ⊕ List Int)} (hb : ∀ (i : Nat) a vs, ps[i]? = some a → a ∈ ps → vs.length ≤ 1099511627776 → body (vs, (i : Int)) = some (.inl (vs ++ [F a], ((i + 1 : Nat) : Int))))
    (he : ∀ vs, body (vs, (ps.length : Nat)) = some (.inr vs)) (hl : ps.length ≤ 1099511627776) : lp body ([], 0) = some (ps.map F) := by
  rw [nR (l := ps) (fun vs i => (vs, i)) (fun vs r => vs ++ r.map F) (fun vs r => vs.length + r.length ≤ 1099511627776) [] ?_ ?_ (by simpa using hl)]
  · simp
  · rintro i a r vs ha h1
    simp only [List.length_cons] at h1
    left
    refine ⟨vs ++ [F a], hb i a vs ha (List.mem_of_getElem? ha) (by omega), by simp only [List.length_append, List.length_cons, List.length_nil]; omega, by simp⟩
  · intro vs _; simpa using he vs

end Go.Abs
namespace Go.Abs
open Go
def mn (a b : Int) : Int := if b < a then b else a

def parts (v : Int) : List aB → List Int
  | [] => []
  | j :: r => (v + j.Net) :: parts (v + j.Net) r

def CX (f : List aB) : Int := (f.map fun j => val f j.At).foldl mn (val f (-1))

theorem parts_eq : ∀ {f : List aB} {l v : Int}, xY l f → parts v f = f.map fun j => v + val f j.At
  | [], _, _, _ => rfl
  | j :: r, l, v, h => by
    simp only [parts, List.map_cons]
    rw [parts_eq h.2, dB, if_pos (Int.le_refl _), h.2.yL (Int.le_refl _), Int.add_zero]
    congr 1
    apply List.map_congr_left
    intro k hk
    have := (h.2.above k hk).1
    rw [dB, if_pos (by omega)]; omega

theorem WY {j : aB} {r : List aB} (h : xY (-2) (j :: r)) : val (j :: r) (-1) = if j.At = -1 then j.Net else 0 := by
  have := h.1.1
  by_cases e : j.At = -1
  · rw [if_pos e, dB, if_pos (by omega), h.2.yL (by omega)]; omega
  · rw [if_neg e, zP]
    intro k hk
    rcases List.mem_cons.1 hk with rfl | hk
    · omega
    · have := (h.2.above k hk).1; omega

theorem JC {f : List aB} (hf : lH f = true) (m : Int) (hm : -1125899906842624 ≤ m ∧ m ≤ 1125899906842624) : sF 0 m f (f.length : Nat) 0 = some ((f.map fun j => val f j.At).foldl mn m) := by
  obtain ⟨hl, hr⟩ := AZ.1 hf
  unfold sF
  rw [nR (l := f) (body := fun s : Int × Int × Int => mM f (f.length : Nat) s.1 s.2.1 s.2.2) (fun (s : Int × Int) i => (s.1, s.2, i)) (fun s r => (parts s.1 r).foldl mn s.2)
    (fun s r => (∀ j ∈ r, j.Net ≤ 1048576 ∧ -1048576 ≤ j.Net) ∧ r.length ≤ 1024 ∧ s.1 ≤ 1048576 * (1024 - r.length) ∧ -(1048576 * (1024 - r.length)) ≤ s.1) (0, m) ?_ ?_ ?_]
  · simp only [Option.bind_some, rO, parts_eq hr, Int.zero_add]
  · rintro i a r ⟨v, m⟩ ha ⟨h1, h2, h3, h4⟩
    obtain ⟨d1, d2, d3, d4⟩ := idx ha (by omega)
    have hj := h1 a (List.mem_cons_self ..)
    simp only [List.length_cons] at h2 h3 h4
    have hw : IntKind.i64.wrap (v + a.Net) = v + a.Net := jJ (by omega) (by omega)
    left
    refine ⟨(v + a.Net, mn m (v + a.Net)), ?_, ⟨fun j hj => h1 j (List.mem_cons_of_mem _ hj), by omega, by simp only; omega, by simp only; omega⟩, rfl⟩
    show mM f (f.length : Nat) v m i = _
    simp only [mM, d1, cond_true, aW d2, d3, d4, hw, mn]
  · rintro ⟨v, m⟩ _
    show mM f (f.length : Nat) v m (f.length : Nat) = _
    simp only [mM, dY, cond_false, parts, List.foldl_nil]
  · exact ⟨PZ hf, hl, by simp only; omega, by simp only; omega⟩

theorem YX (f : List aB) : tP f = some (if lH f then CX f else 0) := by
  unfold tP
  rw [JV]
  cases h : lH f
  · simp
  · cases f with
    | nil => simp [CX, val]
    | cons j r =>
      obtain ⟨hl, hr⟩ := AZ.1 h
      have hne : decide (((List.length (j :: r) : Nat) : Int) = 0) = false := by simp; omega
      simp only [Option.bind_some, Bool.not_true, Bool.false_or, hne, cond_false, aW aBF, aBg, if_true]
      have hj := hr.1
      unfold CX
      rw [WY hr]
      by_cases e : j.At = -1
      · simp only [e, decide_true, cond_true, if_true, pQ]
        exact JC h j.Net (by omega)
      · simp only [e, decide_false, cond_false, if_false, pQ]
        exact JC h 0 (by omega)

theorem BR {s t : Int} (hst : s ≤ t) : ∀ {f : List aB}, (∀ j ∈ f, ¬ (s < j.At ∧ j.At ≤ t)) → val f s = val f t
  | [], _ => rfl
  | j :: r, h => by
    have hj := h j (List.mem_cons_self ..)
    rw [dB, dB, BR hst (fun k hk => h k (List.mem_cons_of_mem _ hk))]
    by_cases e : j.At ≤ s
    · rw [if_pos e, if_pos (by omega)]
    · rw [if_neg e, if_neg (by omega)]

theorem aAI : lH [] = true := by decide

end Go.Abs
namespace Go.Abs
open Go
theorem w1 : IntKind.i64.wrap (0 + 1) = 1 := by rw [jJ] <;> omega

theorem w2 : IntKind.i64.wrap (1 + 1) = 2 := by rw [jJ] <;> omega

theorem w3 : IntKind.i64.wrap (1 - 1) = 0 := by rw [jJ] <;> omega

theorem v0 : IntKind.i64.wrap 0 = 0 := by rw [jJ] <;> omega

theorem v1 : IntKind.i64.wrap 1 = 1 := by rw [jJ] <;> omega

theorem v2 : IntKind.i64.wrap 2 = 2 := by rw [jJ] <;> omega

theorem v3 : IntKind.i64.wrap (-1) = -1 := by rw [jJ] <;> omega

end Go.Abs
namespace Go.Abs
open Go
theorem ZT (f : List aB) : (told f).1.length ≤ 1024 := by
  unfold told
  cases h : lH f
  · simp
  · simpa using (AZ.1 h).1

end Go.Abs
namespace Go.Abs
theorem ZQ : @dM = @nF aB _ := rfl

theorem VV : @dR = @dX aB _ := rfl

theorem TC (cmp) : ∀ k, @gR cmp k = @dZ aB _ cmp k
  | 0 => rfl
  | k + 1 => by
    show dR cmp _ = dX cmp _
    rw [TC cmp k, VV]

theorem ZJ : @eM = @oR aB _ := by
  funext d a m b cmp
  unfold eM oR
  simp only [TC]

theorem RQ : @fF = @wW aB _ := by
  funext d n cmp
  unfold fF wW iN zG
  unfold iQ mB fB yX
  unfold iK zI iS jV
  unfold iU vF iH lZ
  unfold fD uW
  rw [ZJ, ZQ]
  rfl

end Go.Abs
namespace Go.Abs
open Go
variable {α : Type} [Inhabited α]
noncomputable def oW (f1 : α → Option Bool) (s0 : (List α)) (t7 : Int) (t8 : Int) : Option ((Int) ⊕ (Unit ⊕ Int)) :=
  cond (decide (t8 < t7))
  (bC (0 ≤ t8 ∧ t8 < ((List.length s0 : Nat) : Int)) <|
  (f1 (List.getD s0 (Int.toNat t8) default)).bind fun x2 =>
  cond x2
  (some (.inr (.inr t8)))
  (some (.inl (IntKind.i64.wrap (t8 + (1 : Int))))))
  (some (.inr (.inl ())))

theorem DO {l : List α} {f : α → Option Bool} {g : α → Bool} (hl : l.length ≤ 1099511627776) (hf : ∀ x ∈ l, f x = some (g x)) : ∀ (r : List α) (k : Nat), l.drop k = r → k ≤ l.length →
    ∃ x, lp (fun s => oW f l (l.length : Nat) s) (k : Int) = some x ∧ ((x = .inl () ∧ r.any g = false) ∨ (∃ i : Nat, x = .inr (i : Int) ∧ k ≤ i ∧ i < l.length ∧ r.any g = true ∧ g (l.getD i default) = true ∧ ∀ j, k ≤ j → j < i → g (l.getD j default) = false))
  | [], k, hd, hk => by
    have : k = l.length := by
      have := congrArg List.length hd
      simp only [List.length_drop, List.length_nil] at this; omega
    subst this
    refine ⟨.inl (), cK ?_, Or.inl ⟨rfl, rfl⟩⟩
    show oW f l _ _ = _
    simp only [oW, dY, cond_false]
  | a :: r, k, hd, hk => by
    obtain ⟨h1, h2⟩ := drop_cons hd
    have hlt : k < l.length := (List.getElem?_eq_some_iff.1 h1).1
    obtain ⟨d1, d2, d3, d4⟩ := idx h1 (by omega)
    have hga : l.getD k default = a := by rw [Int.toNat_natCast] at d3; exact d3
    have hb : (fun s => oW f l (l.length : Nat) s) (k : Int) = some (if g a then .inr (.inr (k : Int)) else .inl ((k + 1 : Nat) : Int)) := by
      show oW f l _ _ = _
      simp only [oW, d1, cond_true, aW d2, d3, d4, hf a (List.mem_of_getElem? h1), Option.bind_some]
      cases g a <;> simp
    cases hg : g a
    · rw [hg] at hb
      obtain ⟨x, e, hx⟩ := DO hl hf r (k + 1) h2 (by omega)
      refine ⟨x, by rw [eS hb]; exact e, ?_⟩
      rcases hx with ⟨rfl, h⟩ | ⟨i, rfl, h3, h4, h5, h6, h7⟩
      · exact Or.inl ⟨rfl, by simp [hg, h]⟩
      · refine Or.inr ⟨i, rfl, by omega, h4, by simp [h5], h6, fun j hj hj' => ?_⟩
        by_cases e : j = k
        · subst e; rw [hga, hg]
        · exact h7 j (by omega) hj'
    · rw [hg] at hb
      exact ⟨.inr (k : Int), cK hb, Or.inr ⟨k, rfl, Nat.le_refl _, hlt, by simp [hg], by rw [hga, hg], fun j h h' => by omega⟩⟩

end Go.Abs
namespace Go.Abs
open Go
theorem GL {l : List aB} {f : aB → Option Bool} {g : aB → Bool} (hl : l.length ≤ 1099511627776) (hf : ∀ x ∈ l, f x = some (g x)) : cP l f = some (l.any g) := by
  unfold cP fT fK
  obtain ⟨x, e, hx⟩ := DO hl hf l 0 rfl (Nat.zero_le _)
  have e' : lp (fun s => fL f l (l.length : Nat) s) 0 = some x := e
  rw [e']
  rcases hx with ⟨rfl, h⟩ | ⟨i, rfl, _, _, h, _⟩
  · simp [dO, h]
  · simp [h]

def pF (j : aB) : Bool := !zD j.Net

def qZ (j : aB) : Bool := decide (j.At < -1) || decide (1125899906842624 < j.At)

def xI (l : List aB) : List aB := qX 0 ((yO [] (l.filter fun j => decide (j.At < 1125899906842624))).map fun p => (p, val l p))

def jH (l : List aB) : List aB × Int := if l.any pF then ([], 2) else if l.any qZ then ([], 13) else told (xI l)

def zV (p n : Int) : List aB := if n ≠ 0 ∧ p < 1125899906842624 then [⟨p, n⟩] else []

def uT (p n : Int) : List aB → List aB
  | [] => zV p n
  | j :: r => if j.At = p then uT p (n + j.Net) r else zV p n ++ uT j.At j.Net r

def grp : List aB → List aB
  | [] => []
  | j :: r => uT j.At j.Net r

abbrev OM (a b : aB) : Prop := a.At ≤ b.At

theorem IA {t : Int} (ht : t < 1125899906842624) : ∀ {r : List aB} {p n : Int}, val (uT p n r) t = (if p ≤ t then n else 0) + val r t
  | [], p, n => by
    unfold uT zV
    split
    · rw [dB, wS]
    · rw [wS]; split <;> omega
  | j :: r, p, n => by
    unfold uT
    split
    · rename_i h
      rw [IA ht, dB, h]; split <;> omega
    · rw [KA, IA ht, dB]
      have : val (zV p n) t = if p ≤ t then n else 0 := by
        unfold zV
        split
        · rw [dB, wS]; simp
        · rw [wS]; split <;> omega
      rw [this]

theorem aAD {t : Int} (ht : t < 1125899906842624) : ∀ {r : List aB}, val (grp r) t = val r t
  | [] => rfl
  | j :: r => by unfold grp; rw [IA ht, dB]

theorem LA : ∀ {r : List aB} {p n last : Int}, last < p → (∀ j ∈ r, p ≤ j.At) → Srt OM r → Up last (uT p n r)
  | [], p, n, last, h, _, _ => by
    unfold uT zV
    split
    · rename_i h'; exact ⟨⟨h, h'.2, h'.1⟩, trivial⟩
    · trivial
  | j :: r, p, n, last, h, hp, hs => by
    have hj := hp j (by simp)
    have hs' := List.pairwise_cons.1 hs
    unfold uT
    split
    · exact LA h (fun k hk => hp k (by simp [hk])) hs'.2
    · have ih : Up p (uT j.At j.Net r) := LA (by omega) (fun k hk => hs'.1 k hk) hs'.2
      unfold zV
      split
      · rename_i h'; exact ⟨⟨h, h'.2, h'.1⟩, ih⟩
      · exact ih.weaken (by omega)

theorem aBl {r : List aB} (h : ∀ j ∈ r, -2 < j.At) (hs : Srt OM r) : Up (-2) (grp r) := by
  cases r with
  | nil => trivial
  | cons j r =>
    have hs' := List.pairwise_cons.1 hs
    exact LA (h j (by simp)) (fun k hk => hs'.1 k hk) hs'.2

theorem PO {l out : List aB} (hl : l.length ≤ 1099511627776) (hb : ∀ j ∈ l, j.Net ≤ 1048576 ∧ -1048576 ≤ j.Net) : ∀ (r : List aB) (k : Nat) (p n : Int), l.drop k = r → k ≤ l.length → n ≤ 1048576 * k → -(1048576 * k) ≤ n →
    ∃ n' k', k ≤ k' ∧ k' ≤ l.length ∧ uT p n r = zV p n' ++ grp (l.drop k') ∧ lp (fun s : List aB × List aB × Int × aB => jS s.1 s.2.1 s.2.2.1 s.2.2.2) (l, out, (k : Int), ⟨p, n⟩) = some (l, out, ((k' : Nat) : Int), ⟨p, n'⟩) ∧ (∀ j r', r = j :: r' → j.At = p → k < k')
  | [], k, p, n, hd, hk, _, _ => by
    have : k = l.length := by
      have := congrArg List.length hd
      simp only [List.length_drop, List.length_nil] at this; omega
    subst this
    refine ⟨n, l.length, Nat.le_refl _, Nat.le_refl _, by simp [uT, grp], cK ?_, fun j r' h => by cases h⟩
    show jS _ _ _ _ = _
    simp only [jS, dY, Bool.false_and, cond_false]
    exact aW (fun h => by cases h)
  | a :: r, k, p, n, hd, hk, h1, h2 => by
    obtain ⟨e1, e2⟩ := drop_cons hd
    have hlt : k < l.length := (List.getElem?_eq_some_iff.1 e1).1
    obtain ⟨d1, d2, d3, d4⟩ := idx e1 (by omega)
    have ha := hb a (List.mem_of_getElem? e1)
    by_cases h : a.At = p
    · have hw : IntKind.i64.wrap (n + a.Net) = n + a.Net := jJ (by omega) (by omega)
      obtain ⟨n', k', k1, k2, k3, k4, _⟩ := PO hl hb r (k + 1) p (n + a.Net) e2 (by omega) (by omega) (by omega) (out := out)
      refine ⟨n', k', by omega, k2, by simp [uT, h, k3], ?_, fun _ _ _ _ => by omega⟩
      have hb : (fun s : List aB × List aB × Int × aB => jS s.1 s.2.1 s.2.2.1 s.2.2.2) (l, out, (k : Int), ⟨p, n⟩) = some (.inl (l, out, ((k + 1 : Nat) : Int), ⟨p, n + a.Net⟩)) := by
        show jS _ _ _ _ = _
        simp only [jS, d1, Bool.true_and, d3, d4, h, decide_true, cond_true, hw]
        rw [aW (fun _ => d2), aW d2]
      rw [eS hb, k4]
    · refine ⟨n, k, Nat.le_refl _, hk, ?_, cK ?_, fun j r' he hp => ?_⟩
      · rw [hd]; simp [uT, h, grp]
      · show jS _ _ _ _ = _
        simp only [jS, d1, Bool.true_and, d3, h, decide_false, cond_false]
        exact aW (fun _ => d2)
      · cases he; exact absurd hp h

theorem YR {l : List aB} (hl : l.length ≤ 1099511627776) (hb : ∀ j ∈ l, j.Net ≤ 1048576 ∧ -1048576 ≤ j.Net) : ∀ (m k : Nat) (out : List aB), l.length - k ≤ m → k ≤ l.length → out.length ≤ k →
    lp (fun s : List aB × List aB × Int => lI s.1 s.2.1 s.2.2) (l, out, (k : Int)) = some (out ++ grp (l.drop k)) := by
  have stop : ∀ out, lp (fun s : List aB × List aB × Int => lI s.1 s.2.1 s.2.2) (l, out, ((l.length : Nat) : Int)) = some (out ++ grp (l.drop l.length)) := by
    intro out
    refine cK ?_
    show lI _ _ _ = _
    simp only [lI, dY, cond_false]
    simp [grp]
  intro m
  induction m with
  | zero =>
    intro k out hm hk _
    have : k = l.length := by omega
    subst this; exact stop out
  | succ m ih =>
    intro k out hm hk ho
    by_cases he : k = l.length
    · subst he; exact stop out
    · have hlt : k < l.length := by omega
      have hd : l.drop k = l[k] :: l.drop (k + 1) := List.drop_eq_getElem_cons hlt
      obtain ⟨d1, d2, d3, d4⟩ := idx (List.getElem?_eq_getElem hlt) (by omega)
      obtain ⟨n', k', k1, k2, k3, k4, k5⟩ := PO hl hb (l.drop k) k l[k].At 0 rfl hk (by omega) (by omega) (out := out)
      have hk' := k5 _ _ hd rfl
      have hbod : (fun s : List aB × List aB × Int => lI s.1 s.2.1 s.2.2) (l, out, (k : Int)) = some (.inl (l, out ++ zV l[k].At n', ((k' : Nat) : Int))) := by
        show lI _ _ _ = _
        simp only [lI, d1, cond_true, aW d2, d3, yC, k4, Option.bind_some, uB]
        unfold zV
        by_cases c : n' ≠ 0 ∧ l[k].At < 1125899906842624
        · have hc : (!decide (n' = 0) && decide (l[k].At < 1125899906842624)) = true := by simp [c]
          rw [hc, cond_true, if_pos c, aW (by simp only [List.length_cons, List.length_nil]; omega)]
        · have hc : (!decide (n' = 0) && decide (l[k].At < 1125899906842624)) = false := by
            rw [Bool.eq_false_iff]; intro h; apply c; simpa using h
          rw [hc, cond_false, if_neg c]; simp
      have hfl : (zV l[k].At n').length ≤ 1 := by unfold zV; split <;> simp
      rw [eS hbod, ih k' _ (by omega) k2 (by simp only [List.length_append]; omega)]
      have hg : grp (l.drop k) = uT l[k].At 0 (l.drop k) := by rw [hd]; simp [grp, uT]
      rw [hg, k3]; simp

theorem aAF (a b : aB) : mP a b = some (if a.At < b.At then -1 else if b.At < a.At then 1 else 0) := by
  unfold mP jM nQ
  by_cases h1 : a.At < b.At
  · simp [h1]
  · by_cases h2 : b.At < a.At <;> simp [h1, h2]

theorem aBH : Cmp (fun _ => True) OM (fun y0 y1 => mP y0 y1) where
  ans x y _ _ := ⟨_, aAF x y, by unfold OM; split <;> (try split) <;> omega⟩
  trans x y z _ _ _ h1 h2 := Int.le_trans h1 h2
  total x y _ _ := Int.le_total x.At y.At

theorem aBs {l : List aB} (hl : l.length ≤ 1099511627776) : ∃ r, r.Perm l ∧ Srt OM r ∧ dD l (fun y0 y1 => mP y0 y1) = some r := by
  obtain ⟨r, r1, r2, r3⟩ := ME aBH (d := l) (fun _ _ => trivial) hl
  refine ⟨r, r1, r2, ?_⟩
  unfold dD
  rw [RQ, r3]; rfl

theorem NX {f g : List aB} (h : f.Perm g) (t : Int) : val f t = val g t := by
  induction h with
  | nil => rfl
  | cons x _ ih => rw [dB, dB, ih]
  | swap x y l => rw [dB, dB, dB, dB]; omega
  | trans _ _ ih1 ih2 => rw [ih1, ih2]

theorem DM {l : List aB} (h : l.any pF = false) : ∀ j ∈ l, j.Net ≤ 1048576 ∧ -1048576 ≤ j.Net := by
  intro j hj
  have := List.any_eq_false.1 h j hj
  simp [pF, zD] at this
  omega

theorem BJ {l : List aB} (h : l.any qZ = false) : ∀ j ∈ l, -2 < j.At ∧ j.At ≤ 1125899906842624 := by
  intro j hj
  have := List.any_eq_false.1 h j hj
  simp [qZ] at this
  omega

theorem FT {l : List aB} (ht : ∀ j ∈ l, -2 < j.At) : Inc (-2) (yO [] (l.filter fun j => decide (j.At < 1125899906842624))) :=
  QK (ps := []) (show Inc (-2) [] from trivial) fun j hj => by
    obtain ⟨h1, h2⟩ := List.mem_filter.1 hj
    exact ⟨ht j h1, by simpa using h2⟩

theorem RK {l h : List aB} (ht : ∀ j ∈ l, -2 < j.At) (hh : Up (-2) h) (hv : ∀ t, -2 < t → t < 1125899906842624 → val h t = val l t) : xI l = h := by
  refine ZO (F := val l) (zP fun j hj => ht j hj) (FT ht) ?_ hh hv
  intro s t _ hst h2 hn
  exact BR hst fun j hj hc => hn j.At (HZ.2 (Or.inr ⟨j, List.mem_filter.2 ⟨hj, by simp; omega⟩, rfl⟩)) hc

theorem norm_eq {l : List aB} (hl : l.length ≤ 1099511627776) : uX l = some (jH l) := by
  unfold uX jH
  rw [GL (g := pF) hl (fun x _ => by simp [rJ, TO, pF])]
  simp only [Option.bind_some]
  cases h1 : l.any pF
  · rw [GL (f := fun y0 => rP y0) (g := qZ) hl (fun x _ => rfl)]
    simp only [cond_false, Option.bind_some, Bool.false_eq_true, if_false]
    cases h2 : l.any qZ
    · simp only [cond_false, Bool.false_eq_true, if_false]
      have hc : fC l = some l := by unfold fC; exact aW ⟨by omega, by omega⟩
      obtain ⟨r, r1, r2, r3⟩ := aBs hl
      rw [hc]
      simp only [Option.bind_some]
      rw [r3]
      simp only [Option.bind_some, xG]
      have hlr : r.length ≤ 1099511627776 := by rw [r1.length_eq]; exact hl
      have := YR hlr (fun j hj => DM h1 j (r1.mem_iff.1 hj)) r.length 0 [] (by omega) (by omega) (by simp)
      simp only [Int.natCast_zero, List.drop_zero, List.nil_append] at this
      rw [this]
      simp only [Option.bind_some, uA, ZE]
      rw [RK (fun j hj => (BJ h2 j hj).1) (aBl (fun j hj => (BJ h2 j (r1.mem_iff.1 hj)).1) r2) (fun t _ ht => by rw [aAD ht, NX r1])]
    · simp
  · simp

theorem VR {l : List aB} (hl : l.length ≤ 1099511627776) : tU l = some (jH l) := by
  unfold tU vN jH
  rw [KP (l := l) (fun i => i) pF (.inr ([], 2)) (.inl ()) ?_ ?_]
  · cases h1 : l.any pF
    · simp only [Bool.false_eq_true, if_false, Option.bind_some, Sum.elim_inl, sC, wE]
      rw [nR (l := l) (body := fun s : List Int × Int => iX l s.1 s.2) (fun ps i => (ps, i)) (fun ps r => if r.any qZ then .inr ([], 13) else .inl (yO ps (r.filter fun j => decide (j.At < 1125899906842624))))
        (fun ps r => Inc (-2) ps ∧ ps.length + r.length ≤ 1099511627776) [] ?_ ?_ ⟨trivial, by simpa using hl⟩]
      · cases h2 : l.any qZ
        · simp only [Bool.false_eq_true, if_false, Option.bind_some, Sum.elim_inl, sJ, vP]
          have hlen := QO (f := l.filter fun j => decide (j.At < 1125899906842624)) (ps := [])
          have hlf : (l.filter fun j => decide (j.At < 1125899906842624)).length ≤ l.length := List.length_filter_le _ _
          simp only [List.length_nil] at hlen
          have hvb : ∀ p, val l p ≤ 1048576 * l.length ∧ -(1048576 * l.length) ≤ val l p := fun p => MO p (by omega) (fun j hj => by have := DM h1 j hj; omega)
          rw [SJ (ps := yO [] (l.filter fun j => decide (j.At < 1125899906842624))) (F := val l) (body := fun s : List Int × Int => mS l (yO [] (l.filter fun j => decide (j.At < 1125899906842624))) s.1 s.2) ?_ ?_ (by omega)]
          · simp only [Option.bind_some, rK]
            rw [UP (by omega) (fun p _ => by have := hvb p; omega)]
            rfl
          · intro i a vs ha _ hv
            obtain ⟨d1, d2, d3, d4⟩ := idx ha (by omega)
            show mS l _ vs i = _
            simp only [mS, d1, cond_true, aW d2, d3, d4, HV a (DM h1) hl, Option.bind_some]
            exact aW (by simp only [List.length_cons, List.length_nil]; omega)
          · intro vs
            show mS l _ vs _ = _
            simp only [mS, dY, cond_false]
        · simp
      · rintro i a r ps ha ⟨g1, g2⟩
        obtain ⟨d1, d2, d3, d4⟩ := idx ha (by omega)
        simp only [List.length_cons] at g2
        have hbod : iX l ps i = if qZ a then some (.inr (.inr ([], 13))) else if a.At < 1125899906842624 then (qO ps a.At).bind (fun x => some (.inl (x, ((i + 1 : Nat) : Int)))) else some (.inl (ps, ((i + 1 : Nat) : Int))) := by
          simp only [iX, sI, d1, cond_true, aW d2, d3, d4]
          rw [aW (fun _ => d2)]
          unfold qZ
          cases (decide (a.At < -1) || decide (1125899906842624 < a.At))
          · by_cases c : a.At < 1125899906842624 <;> simp [c]
          · simp
        cases ho : qZ a
        · left
          rw [ho] at hbod
          have ho' : -1 ≤ a.At ∧ a.At ≤ 1125899906842624 := by simp [qZ] at ho; omega
          by_cases c : a.At < 1125899906842624
          · have hlen := FC (t := a.At) (ps := ps)
            refine ⟨nK a.At ps, ?_, ⟨GH g1 (by omega) c, by omega⟩, ?_⟩
            · show iX l ps i = _
              rw [hbod, aAi g1 (by omega)]; simp [c]
            · simp only [List.any_cons, ho, Bool.false_or]
              have hf : (a :: r).filter (fun j => decide (j.At < 1125899906842624)) = a :: r.filter (fun j => decide (j.At < 1125899906842624)) := by simp [c]
              rw [hf]; rfl
          · refine ⟨ps, ?_, ⟨g1, by omega⟩, ?_⟩
            · show iX l ps i = _
              rw [hbod]; simp [c]
            · simp only [List.any_cons, ho, Bool.false_or]
              have hf : (a :: r).filter (fun j => decide (j.At < 1125899906842624)) = r.filter (fun j => decide (j.At < 1125899906842624)) := by simp [c]
              rw [hf]
        · right
          rw [ho] at hbod
          show iX l ps i = _
          rw [hbod]; simp [ho]
      · intro ps _
        show iX l ps _ = _
        simp only [iX, dY, cond_false]
        simp [yO]
    · simp
  · intro i a ha
    obtain ⟨d1, d2, d3, d4⟩ := idx ha (by omega)
    show oC l i = _
    simp only [oC, d1, cond_true, aW d2, d3, d4]
    rw [aW (fun _ => d2)]
    unfold pF zD
    by_cases c1 : 1048576 < a.Net
    · have : ¬ a.Net ≤ 1048576 := by omega
      simp [c1, this]
    · have c1' : a.Net ≤ 1048576 := by omega
      by_cases c2 : a.Net < -1048576
      · have : ¬ -1048576 ≤ a.Net := by omega
        simp [c1', c1, c2, this]
      · have : -1048576 ≤ a.Net := by omega
        simp [c1', c1, c2, this]
  · show oC l _ = _
    simp only [oC, dY, cond_false]

end Go.Abs
namespace Go.Abs
open Go
theorem MT (x y : ByteArray) : nJ x y = decide (x = y) := by
  unfold nJ
  rw [ByteArray.toList_eq, ByteArray.toList_eq]
  by_cases h : x = y
  · simp [h]
  · have : x.data.toList ≠ y.data.toList := by
      intro he
      apply h
      cases x; cases y
      congr 1
      exact Array.toList_inj.1 he
    have h2 : (x.data.toList == y.data.toList) = false := by simpa using this
    rw [h2]; simp [h]

theorem veq (a b : aF) : ((decide (a.Kind = b.Kind)) && ((decide (a.Num = b.Num)) && ((nJ a.Text b.Text) && true))) = decide (a = b) := by
  rw [MT]
  obtain ⟨a1, a2, a3⟩ := a
  obtain ⟨b1, b2, b3⟩ := b
  by_cases h1 : a1 = b1 <;> by_cases h2 : a2 = b2 <;> by_cases h3 : a3 = b3 <;> simp [h1, h2, h3]

def CP (v : aF) : Bool := decide (v.Kind = 1) && nJ v.Text (⟨#[]⟩ : ByteArray)

def BT (v : aF) : Bool := ((decide (v.Kind = 2)) && (decide (v.Num = 0))) && (decide (((ByteArray.size v.Text : Nat) : Int) ≤ 64))

def rF (v : aF) : Bool := CP v || BT v

def iA (r : List aF) : Bool := decide (r.length ≤ 8) && r.all rF

theorem of_eq (v : aF) : lJ v = some (if CP v then (.k_number v.Num, true) else if BT v then (.k_words v.Text, true) else (.none_, false)) := by
  unfold lJ CP BT
  cases (decide (v.Kind = 1) && nJ v.Text (⟨#[]⟩ : ByteArray)) <;> cases (((decide (v.Kind = 2)) && (decide (v.Num = 0))) && (decide (((ByteArray.size v.Text : Nat) : Int) ≤ 64))) <;> rfl

theorem aAk (v : aF) : vC v = some (rF v) := by
  unfold vC rF
  rw [of_eq]
  cases CP v <;> cases BT v <;> rfl

theorem JD (v : aF) : qI v = some (rF v) := by
  unfold qI rF CP BT
  by_cases h : v.Kind = 1
  · simp [h]
  · simp [h]

theorem RJ {l : List aF} {f : aF → Option Bool} {g : aF → Bool} (hl : l.length ≤ 1099511627776) (hf : ∀ x ∈ l, f x = some (g x)) : dJ l f = some (l.any g) := by
  unfold dJ fR fN
  obtain ⟨x, e, hx⟩ := DO hl hf l 0 rfl (Nat.zero_le _)
  have e' : lp (fun s => fJ f l (l.length : Nat) s) 0 = some x := e
  rw [e']
  rcases hx with ⟨rfl, h⟩ | ⟨i, rfl, _, _, h, _⟩
  · simp [dN, h]
  · simp [h]

theorem AY (r : List aF) : oP r = some (iA r) := by
  unfold oP iA
  by_cases h : r.length ≤ 8
  · have h1 : decide ((8 : Int) < ((r.length : Nat) : Int)) = false := by simp; omega
    rw [h1, cond_false, RJ (g := fun v => !rF v) (by omega) (fun x _ => by simp [uV, aAk])]
    simp only [Option.bind_some, h, decide_true, Bool.true_and]
    congr 1
    rw [List.all_eq_not_any_not]
  · have h1 : decide ((8 : Int) < ((r.length : Nat) : Int)) = true := by simp; omega
    rw [h1, cond_true]
    simp [h]

theorem AT (r : List aF) (hl : r.length ≤ 1099511627776 * 16) : oT r = some (iA r) := by
  unfold oT yF
  have hl9 : (r.take 9).length ≤ 9 := by simp; omega
  rw [KP (l := r.take 9) (fun i => i) (fun v => !rF v) (.inr false) (.inl ()) ?_ ?_]
  · unfold iA
    by_cases h : r.length ≤ 8
    · have ht : r.take 9 = r := List.take_of_length_le (by omega)
      rw [ht, List.all_eq_not_any_not]
      cases h1 : (r.any fun v => !rF v)
      · have : ((r.length : Nat) : Int) ≤ 8 := by omega
        simp [qN, this, h]
      · simp
    · cases h1 : ((r.take 9).any fun v => !rF v)
      · have : ¬ ((r.length : Nat) : Int) ≤ 8 := by omega
        simp [qN, this, h]
      · simp [h]
  · intro i a ha
    have hi : i < (r.take 9).length := (List.getElem?_eq_some_iff.1 ha).1
    have hi2 : i < r.length := by simp at hi; omega
    have ha2 : r[i]? = some a := by
      rw [List.getElem?_take] at ha
      split at ha
      · exact ha
      · cases ha
    obtain ⟨d1, d2, d3, d4⟩ := idx ha2 (by omega)
    have h9 : decide ((i : Int) < 9) = true := by simp; omega
    show pE r i = _
    simp only [pE, d1, h9, Bool.and_self, cond_true, aW d2, d3, d4, JD, Option.bind_some]
    cases rF a <;> simp
  · show pE r _ = _
    have : ((decide ((((r.take 9).length : Nat) : Int) < ((r.length : Nat) : Int))) && (decide ((((r.take 9).length : Nat) : Int) < 9))) = false := by
      rw [Bool.and_eq_false_iff]
      by_cases h : r.length ≤ 8
      · left; simp; omega
      · right; simp; omega
    simp only [pE, this, cond_false]

theorem KC {α : Type} [DecidableEq α] {f g : List α} {body : Int → Option (Int ⊕ (Unit ⊕ Bool))} (he : f.length = g.length)
    (hb : ∀ (i : Nat) a b, f[i]? = some a → g[i]? = some b → body i = some (if a = b then .inl ((i + 1 : Nat) : Int) else .inr (.inr false)))
    (hend : body (f.length : Nat) = some (.inr (.inl ()))) : ∀ (m k : Nat), f.length - k = m → k ≤ f.length → lp body (k : Int) = some (if f.drop k = g.drop k then .inl () else .inr false)
  | 0, k, hm, hk => by
    have : k = f.length := by omega
    subst this
    rw [List.drop_length, he, List.drop_length, if_pos rfl]
    rw [← he]
    exact cK hend
  | m + 1, k, hm, hk => by
    have h1 : k < f.length := by omega
    have h2 : k < g.length := by omega
    have hbk := hb k _ _ (List.getElem?_eq_getElem h1) (List.getElem?_eq_getElem h2)
    have e1 : f.drop k = f[k] :: f.drop (k + 1) := List.drop_eq_getElem_cons h1
    have e2 : g.drop k = g[k] :: g.drop (k + 1) := List.drop_eq_getElem_cons h2
    have hiff : (f.drop k = g.drop k) ↔ (f[k] = g[k] ∧ f.drop (k + 1) = g.drop (k + 1)) := by rw [e1, e2, List.cons.injEq]
    by_cases h : f[k] = g[k]
    · rw [if_pos h] at hbk
      rw [eS hbk, KC he hb hend m (k + 1) (by omega) (by omega)]
      simp only [hiff, h, true_and]
    · rw [if_neg h] at hbk
      rw [cK hbk]
      simp only [hiff, h, false_and, if_false]

theorem JM {α : Type} {f g : List α} (h : f.length ≠ g.length) : (!decide (((f.length : Nat) : Int) = ((g.length : Nat) : Int))) = true := by simp; omega

theorem JN {α : Type} {f g : List α} (h : f.length = g.length) : (!decide (((f.length : Nat) : Int) = ((g.length : Nat) : Int))) = false := by simp [h]

theorem EF (a b : List aF) (hl : a.length ≤ 17592186044416) : rC a b = some (decide (a = b)) := by
  unfold rC iE
  by_cases he : a.length = b.length
  · rw [JN he, cond_false]
    unfold iB
    have := KC (f := a) (g := b) (body := fun s => dK a b (a.length : Nat) s) he ?_ ?_ a.length 0 rfl (Nat.zero_le _)
    · simp only [Int.natCast_zero, List.drop_zero] at this
      rw [this]
      by_cases h : a = b <;> simp [h, eK]
    · intro i x y hx hy
      obtain ⟨d1, d2, d3, d4⟩ := idx hx (by omega)
      obtain ⟨_, e2, e3, _⟩ := idx hy (by omega)
      simp only [dK, d1, cond_true, aW d2, aW e2, d3, e3, d4, veq]
      by_cases h : x = y <;> simp [h]
    · simp only [dK, dY, cond_false]
  · rw [JM he, cond_true]
    have : a ≠ b := fun h => he (by rw [h])
    simp [this]

theorem AE (a b : List aF) (hl : a.length ≤ 17592186044416) : pH a b = some (decide (a = b)) := by
  unfold pH
  by_cases he : a.length = b.length
  · rw [JN he, cond_false]
    unfold vW
    have := KC (f := a) (g := b) (body := fun s => pP a b s) he ?_ ?_ a.length 0 rfl (Nat.zero_le _)
    · simp only [Int.natCast_zero, List.drop_zero] at this
      rw [this]
      by_cases h : a = b <;> simp [h, rS]
    · intro i x y hx hy
      obtain ⟨d1, d2, d3, d4⟩ := idx hx (by omega)
      obtain ⟨_, e2, e3, _⟩ := idx hy (by omega)
      simp only [pP, d1, cond_true, aW d2, aW e2, d3, e3, d4, veq]
      by_cases h : x = y <;> simp [h]
    · simp only [pP, dY, cond_false]
  · rw [JM he, cond_true]
    have : a ≠ b := fun h => he (by rw [h])
    simp [this]

structure FK {α : Type} (c : α → α → Int) : Prop where
  eq : ∀ a b, c a b = 0 ↔ a = b
  anti : ∀ a b, c a b < 0 ↔ 0 < c b a
  trans : ∀ a b d, c a b < 0 → c b d < 0 → c a d < 0

def mV (x y : Int) : Int := if x < y then -1 else if y < x then 1 else 0

theorem BO : FK mV where
  eq a b := by unfold mV; (repeat' split) <;> omega
  anti a b := by unfold mV; (repeat' split) <;> omega
  trans a b d := by unfold mV; (repeat' split) <;> omega

def fP {α : Type} [DecidableEq α] (c : α → α → Int) : List α → List α → Int
  | [], [] => 0
  | [], _ :: _ => -1
  | _ :: _, [] => 1
  | a :: r, b :: s => if a = b then fP c r s else c a b

theorem FK.list {α : Type} [DecidableEq α] {c : α → α → Int} (h : FK c) : FK (fP c) where
  eq := by
    intro a
    induction a with
    | nil => intro b; cases b <;> simp [fP]
    | cons x r ih =>
      intro b
      cases b with
      | nil => simp [fP]
      | cons y s =>
        unfold fP
        split
        · rename_i e; subst e; rw [ih]; simp
        · rename_i e
          have := h.eq x y
          constructor
          · intro h0; exact absurd (this.1 h0) e
          · intro h0; cases h0; exact absurd rfl e
  anti := by
    intro a
    induction a with
    | nil => intro b; cases b <;> simp [fP]
    | cons x r ih =>
      intro b
      cases b with
      | nil => simp [fP]
      | cons y s =>
        unfold fP
        by_cases e : x = y
        · subst e; simp only [if_true]; exact ih s
        · rw [if_neg e, if_neg (fun e' => e e'.symm)]; exact h.anti x y
  trans := by
    intro a
    induction a with
    | nil =>
      intro b d
      cases b <;> cases d <;> simp [fP]
    | cons x r ih =>
      intro b d
      cases b with
      | nil => simp [fP]
      | cons y s =>
        cases d with
        | nil => simp [fP]
        | cons z t =>
          unfold fP
          by_cases e1 : x = y
          · subst e1
            rw [if_pos rfl]
            by_cases e2 : x = z
            · subst e2; rw [if_pos rfl, if_pos rfl]; exact ih s t
            · rw [if_neg e2, if_neg e2]; exact fun _ h => h
          · rw [if_neg e1]
            by_cases e2 : y = z
            · have hz : ¬ x = z := fun e => e1 (e.trans e2.symm)
              intro h _
              rw [if_neg hz, ← e2]; exact h
            · rw [if_neg e2]
              intro h1 h2
              by_cases e3 : x = z
              · subst e3
                have h3 := (h.anti x y).1 h1
                omega
              · rw [if_neg e3]; exact h.trans x y z h1 h2

def zX (a b : UInt8) : Int := if a < b then -1 else if b < a then 1 else 0

theorem IF : FK zX where
  eq a b := by
    unfold zX
    constructor
    · intro h
      split at h
      · cases h
      · split at h
        · cases h
        · rename_i h1 h2
          rw [UInt8.lt_iff_toNat_lt] at h1 h2
          exact UInt8.toNat_inj.1 (by omega)
    · rintro rfl
      have : ¬ a < a := by rw [UInt8.lt_iff_toNat_lt]; omega
      simp [this]
  anti a b := by
    unfold zX
    simp only [UInt8.lt_iff_toNat_lt]
    (repeat' split) <;> omega
  trans a b d := by
    unfold zX
    simp only [UInt8.lt_iff_toNat_lt]
    (repeat' split) <;> omega

theorem BS : ∀ (a b : List UInt8), Go.Lib.compareBytes a b = fP zX a b
  | [], [] => rfl
  | [], _ :: _ => rfl
  | _ :: _, [] => rfl
  | a :: r, b :: s => by
    unfold Go.Lib.compareBytes fP
    rw [BS r s]
    by_cases e : a = b
    · subst e
      have : ¬ a < a := by rw [UInt8.lt_iff_toNat_lt]; omega
      simp [this]
    · rw [if_neg e]
      unfold zX
      have : ¬ (¬ a < b ∧ ¬ b < a) := by
        rintro ⟨h1, h2⟩
        rw [UInt8.lt_iff_toNat_lt] at h1 h2
        exact e (UInt8.toNat_inj.1 (by omega))
      by_cases h1 : a < b
      · simp [h1]
      · have h2 : b < a := Classical.byContradiction fun h2 => this ⟨h1, h2⟩
        simp [h1, h2]

def KZ (a b : ByteArray) : Int := fP zX a.data.toList b.data.toList

theorem aAh (a b : ByteArray) : LF a b = KZ a b := BS _ _

theorem data_inj {x y : ByteArray} (h : x.data.toList = y.data.toList) : x = y := by
  cases x; cases y
  congr 1
  exact Array.toList_inj.1 h

theorem DP : FK KZ where
  eq a b := by unfold KZ; rw [(IF.list).eq]; exact ⟨data_inj, fun h => by rw [h]⟩
  anti a b := (IF.list).anti _ _
  trans a b d := (IF.list).trans _ _ _

def wO (a b : aF) : Int := if a.Kind = b.Kind then (if a.Num = b.Num then KZ a.Text b.Text else mV a.Num b.Num) else mV a.Kind b.Kind

theorem DS : FK wO where
  eq a b := by
    obtain ⟨a1, a2, a3⟩ := a
    obtain ⟨b1, b2, b3⟩ := b
    unfold wO
    simp only [aF.mk.injEq]
    by_cases h1 : a1 = b1
    · by_cases h2 : a2 = b2
      · simp [h1, h2, DP.eq]
      · simp [h1, h2, BO.eq]
    · simp [h1, BO.eq]
  anti a b := by
    unfold wO
    by_cases h1 : a.Kind = b.Kind
    · rw [if_pos h1, if_pos h1.symm]
      by_cases h2 : a.Num = b.Num
      · rw [if_pos h2, if_pos h2.symm]; exact DP.anti _ _
      · rw [if_neg h2, if_neg (fun h => h2 h.symm)]; exact BO.anti _ _
    · rw [if_neg h1, if_neg (fun h => h1 h.symm)]; exact BO.anti _ _
  trans a b d := by
    unfold wO
    intro h1 h2
    have lt : ∀ {x y : Int}, mV x y < 0 → x < y := fun {x y} h => by unfold mV at h; split at h <;> (try split at h) <;> omega
    have mk : ∀ {x y : Int}, x < y → mV x y < 0 := fun {x y} h => by unfold mV; rw [if_pos h]; omega
    by_cases e1 : a.Kind = b.Kind
    · rw [if_pos e1] at h1
      by_cases e2 : b.Kind = d.Kind
      · rw [if_pos e2] at h2
        rw [if_pos (e1.trans e2)]
        by_cases f1 : a.Num = b.Num
        · rw [if_pos f1] at h1
          by_cases f2 : b.Num = d.Num
          · rw [if_pos f2] at h2
            rw [if_pos (f1.trans f2)]
            exact DP.trans _ _ _ h1 h2
          · rw [if_neg f2] at h2
            rw [f1, if_neg f2]; exact h2
        · rw [if_neg f1] at h1
          have g1 := lt h1
          by_cases f2 : b.Num = d.Num
          · rw [← f2, if_neg f1]; exact h1
          · rw [if_neg f2] at h2
            have g2 := lt h2
            rw [if_neg (by omega)]
            exact mk (by omega)
      · rw [if_neg e2] at h2
        rw [e1, if_neg e2]; exact h2
    · rw [if_neg e1] at h1
      have g1 := lt h1
      by_cases e2 : b.Kind = d.Kind
      · rw [← e2, if_neg e1]; exact h1
      · rw [if_neg e2] at h2
        have g2 := lt h2
        rw [if_neg (by omega)]
        exact mk (by omega)

def fQ (a b : List aF) : Int := fP wO a b

theorem nA : FK fQ := DS.list

end Go.Abs
namespace Go.Abs
open Go
theorem LQ (x y : Int) : jM x y = some (mV x y) := by
  unfold jM nQ mV
  by_cases h1 : x < y
  · simp [h1]
  · by_cases h2 : y < x <;> simp [h1, h2]

theorem XZ (x y : Int) : eA x y = some (mV x y) := by
  unfold eA jR mV
  by_cases h1 : x < y
  · simp [h1]
  · by_cases h2 : y < x <;> simp [h1, h2]

theorem AX {v : aF} (h : CP v = true) : v.Kind = 1 ∧ v.Text = (⟨#[]⟩ : ByteArray) := by
  simp only [CP, MT, Bool.and_eq_true, decide_eq_true_eq] at h; exact h

theorem yM {v : aF} (h : BT v = true) : v.Kind = 2 ∧ v.Num = 0 ∧ v.Text.size ≤ 64 := by
  simp only [BT, Bool.and_eq_true, decide_eq_true_eq] at h; exact ⟨h.1.1, h.1.2, by omega⟩

theorem HB {v : aF} (h : rF v = true) : CP v = true ∨ (CP v = false ∧ BT v = true) := by
  unfold rF at h
  cases hn : CP v
  · rw [hn] at h; exact .inr ⟨rfl, by simpa using h⟩
  · exact .inl rfl

theorem WK (a : ByteArray) : KZ a a = 0 := (DP.eq a a).2 rfl

theorem BX (a : Int) : mV a a = 0 := (BO.eq a a).2 rfl

theorem WX {a b : aF} (ha : rF a = true) (hb : rF b = true) : qC a b = some (wO a b) := by
  unfold qC
  simp only [of_eq, Option.bind_some]
  rcases HB ha with h1 | ⟨h1, h1'⟩ <;> rcases HB hb with h2 | ⟨h2, h2'⟩
  · obtain ⟨k1, t1⟩ := AX h1
    obtain ⟨k2, t2⟩ := AX h2
    simp only [h1, h2, if_true, Bool.not_true, Bool.or_self, cond_false, XZ, Option.bind_some]
    unfold wO
    rw [k1, k2, t1, t2, if_pos rfl, WK]
    by_cases hn : a.Num = b.Num
    · rw [if_pos hn, hn, BX]
    · rw [if_neg hn]
  · obtain ⟨k1, t1⟩ := AX h1
    obtain ⟨k2, n2, _⟩ := yM h2'
    simp only [h1, h2, h2', if_true, Bool.false_eq_true, if_false, Bool.not_true, Bool.or_self, cond_false]
    unfold wO
    rw [k1, k2]; rfl
  · obtain ⟨k1, n1, _⟩ := yM h1'
    obtain ⟨k2, t2⟩ := AX h2
    simp only [h1, h1', h2, if_true, Bool.false_eq_true, if_false, Bool.not_true, Bool.or_self, cond_false]
    unfold wO
    rw [k1, k2]; rfl
  · obtain ⟨k1, n1, _⟩ := yM h1'
    obtain ⟨k2, n2, _⟩ := yM h2'
    simp only [h1, h1', h2, h2', if_true, Bool.false_eq_true, if_false, Bool.not_true, Bool.or_self, cond_false]
    unfold wO mH iD
    rw [k1, k2, n1, n2, if_pos rfl, if_pos rfl]
    simp [aAh]

theorem wY {r : List aF} (h : iA r = true) : r.length ≤ 8 ∧ ∀ v ∈ r, rF v = true := by
  simp only [iA, Bool.and_eq_true, decide_eq_true_eq, List.all_eq_true] at h; exact h

theorem OU {a b : List aF} {k : Nat} (hk : k = a.length ∨ k = b.length) (h1 : k ≤ a.length) (h2 : k ≤ b.length) : fQ (a.drop k) (b.drop k) = mV a.length b.length := by
  rcases hk with rfl | rfl
  · rw [List.drop_length]
    by_cases h : a.length = b.length
    · rw [h, List.drop_length, BX]; rfl
    · rw [List.drop_eq_getElem_cons (by omega)]
      show (-1 : Int) = _
      unfold mV; rw [if_pos (by omega)]
  · rw [List.drop_length]
    by_cases h : a.length = b.length
    · rw [← h, List.drop_length, BX]; rfl
    · rw [List.drop_eq_getElem_cons (by omega)]
      show (1 : Int) = _
      unfold mV; rw [if_neg (by omega), if_pos (by omega)]

theorem TA {a b : List aF} (hl : a.length ≤ 8) (hlb : b.length ≤ 8) (n : Nat) (hn : n = min a.length b.length) : ∀ (m k : Nat), n - k = m → k ≤ n →
    ∃ x, lp (fun s : Int × Int => bU (fun st y0 => (jL y0 st b).bind fun o => some (o.2, o.1)) (a.take n) (n : Nat) s.1 s.2) ((k : Int) - 1, (k : Int)) = some x ∧
      ((∃ sg, x = .inl sg ∧ fQ (a.drop k) (b.drop k) = mV a.length b.length) ∨
        (∃ i : Nat, x = .inr ((i : Int), (i : Int)) ∧ i < a.length ∧ i < b.length ∧ fQ (a.drop k) (b.drop k) = wO (a.getD i default) (b.getD i default)))
  | 0, k, hm, hk => by
    have : k = n := by omega
    subst this
    refine ⟨.inl ((k : Int) - 1), cK ?_, .inl ⟨_, rfl, OU (by omega) (by omega) (by omega)⟩⟩
    show bU _ _ _ _ _ = _
    simp only [bU, dY, cond_false]
  | m + 1, k, hm, hk => by
    have h1 : k < a.length := by omega
    have h2 : k < b.length := by omega
    have ht : (a.take n)[k]? = some a[k] := by
      rw [List.getElem?_take_of_lt (by omega)]; exact List.getElem?_eq_getElem h1
    obtain ⟨d1, d2, d3, d4⟩ := idx ht (by simp; omega)
    have hlt : (a.take n).length = n := by simp; omega
    rw [hlt] at d1 d2
    obtain ⟨_, e2, e3, _⟩ := idx (List.getElem?_eq_getElem h2) (by omega)
    have hw : IntKind.i64.wrap ((k : Int) - 1 + 1) = (k : Int) := by rw [jJ (by omega) (by omega)]; omega
    have hb : (fun s : Int × Int => bU (fun st y0 => (jL y0 st b).bind fun o => some (o.2, o.1)) (a.take n) (n : Nat) s.1 s.2) ((k : Int) - 1, (k : Int)) =
        some (if a[k] = b[k] then .inl ((k : Int), ((k + 1 : Nat) : Int)) else .inr (.inr ((k : Int), (k : Int)))) := by
      show bU _ _ _ _ _ = _
      simp only [bU, d1, cond_true, hlt, aW d2, d3, d4, jL, hw, aW e2, e3, veq, Option.bind_some]
      by_cases h : a[k] = b[k] <;> simp [h]
    have ea : a.drop k = a[k] :: a.drop (k + 1) := List.drop_eq_getElem_cons h1
    have eb : b.drop k = b[k] :: b.drop (k + 1) := List.drop_eq_getElem_cons h2
    by_cases h : a[k] = b[k]
    · rw [if_pos h] at hb
      obtain ⟨x, e, hx⟩ := TA hl hlb n hn m (k + 1) (by omega) (by omega)
      have hc : fQ (a.drop k) (b.drop k) = fQ (a.drop (k + 1)) (b.drop (k + 1)) := by
        rw [ea, eb]; unfold fQ; rw [fP, if_pos h]
      refine ⟨x, ?_, by rw [hc]; exact hx⟩
      rw [eS hb]
      rw [show ((k + 1 : Nat) : Int) - 1 = (k : Int) by omega] at e
      exact e
    · rw [if_neg h] at hb
      refine ⟨_, cK hb, .inr ⟨k, rfl, h1, h2, ?_⟩⟩
      rw [ea, eb]; unfold fQ; rw [fP, if_neg h]
      simp [List.getD_eq_getElem?_getD, h1, h2]

theorem LY (a b : List aF) : pR a b = some (if iA a && iA b then fQ a b else 0) := by
  unfold pR
  rw [AY]
  simp only [Option.bind_some]
  cases ha : iA a
  · simp [cN]
  · simp only [Bool.not_true, Bool.not_false, cN, cond_true, AY, Option.bind_some, Bool.false_or]
    cases hb : iA b
    · simp
    · obtain ⟨la, ma⟩ := wY ha
      obtain ⟨lb, mb⟩ := wY hb
      have hif : (if ((List.length b : Nat) : Int) < ((List.length a : Nat) : Int) then ((List.length b : Nat) : Int) else ((List.length a : Nat) : Int)) = ((min a.length b.length : Nat) : Int) := by split <;> omega
      have hlt : (a.take (min a.length b.length)).length = min a.length b.length := by rw [List.length_take]; omega
      simp only [Bool.not_true, cond_false, hif, Int.toNat_natCast, sY, Option.bind_some, fE, eU, hlt, Bool.and_self, if_true]
      rw [aW ⟨by omega, by omega⟩]
      obtain ⟨x, e, hx⟩ := TA (a := a) (b := b) la lb _ rfl _ 0 rfl (Nat.zero_le _)
      have e' : lp (fun s : Int × Int => bU (fun st y0 => (jL y0 st b).bind fun o => some (o.2, o.1)) (a.take (min a.length b.length)) (min a.length b.length : Nat) s.1 s.2) ((-1 : Int), (0 : Int)) = some x := e
      rw [e']
      simp only [List.drop_zero] at hx
      rcases hx with ⟨sg, rfl, h⟩ | ⟨i, rfl, h1, h2, h⟩
      · simp [dI, LQ, h]
      · have hi : decide ((i : Int) < 0) = false := by simp
        simp only [Option.bind_some, Sum.elim_inr, hi, cond_false, Int.toNat_natCast]
        rw [aW ⟨by omega, by omega⟩, aW ⟨by omega, by omega⟩]
        have g1 : a.getD i default ∈ a := by simp [List.getD_eq_getElem?_getD, h1]
        have g2 : b.getD i default ∈ b := by simp [List.getD_eq_getElem?_getD, h2]
        rw [WX (ma _ g1) (mb _ g2), h]
        simp only [Option.bind_some]

theorem aAd {s : ByteArray} {i : Nat} (h : i < s.data.toList.length) : bt s (i : Int) = ((s.data.toList[i]).toNat : Int) := by
  have h' : i < s.data.size := by simpa using h
  unfold bt
  simp only [Int.toNat_natCast, Array.getElem_toList]
  rw [Array.getD_eq_getD_getElem?, Array.getElem?_eq_getElem h']
  rfl

theorem OW {a b : aF} (ha : a.Text.size ≤ 64) (hb : b.Text.size ≤ 64) : ∀ (m k : Nat), min a.Text.size b.Text.size - k = m → k ≤ min a.Text.size b.Text.size →
    ∃ x, lp (fun s => fW a b s) (k : Int) = some x ∧
      ((x = .inl () ∧ fP zX (a.Text.data.toList.drop k) (b.Text.data.toList.drop k) = mV a.Text.size b.Text.size) ∨ (∃ v, x = .inr v ∧ fP zX (a.Text.data.toList.drop k) (b.Text.data.toList.drop k) = v))
  | 0, k, hm, hk => by
    have hsa : a.Text.data.toList.length = a.Text.size := by rw [Array.length_toList]; rfl
    have hsb : b.Text.data.toList.length = b.Text.size := by rw [Array.length_toList]; rfl
    refine ⟨.inl (), cK ?_, .inl ⟨rfl, ?_⟩⟩
    · show fW a b _ = _
      have : ((decide ((k : Int) < ((ByteArray.size a.Text : Nat) : Int))) && (decide ((k : Int) < ((ByteArray.size b.Text : Nat) : Int)))) = false := by
        rw [Bool.and_eq_false_iff]
        simp only [decide_eq_false_iff_not]
        omega
      simp only [fW, this, cond_false]
    · by_cases h1 : a.Text.size ≤ k
      · rw [List.drop_eq_nil_of_le (by omega)]
        by_cases h2 : b.Text.size ≤ k
        · rw [List.drop_eq_nil_of_le (by omega)]
          have : a.Text.size = b.Text.size := by omega
          rw [this, BX]; rfl
        · rw [List.drop_eq_getElem_cons (by omega)]
          show (-1 : Int) = _
          unfold mV; rw [if_pos (by omega)]
      · have h2 : b.Text.size ≤ k := by omega
        rw [@List.drop_eq_nil_of_le _ b.Text.data.toList k (by omega), List.drop_eq_getElem_cons (by omega)]
        show (1 : Int) = _
        unfold mV; rw [if_neg (by omega), if_pos (by omega)]
  | m + 1, k, hm, hk => by
    have hsa : a.Text.data.toList.length = a.Text.size := by rw [Array.length_toList]; rfl
    have hsb : b.Text.data.toList.length = b.Text.size := by rw [Array.length_toList]; rfl
    have h1 : k < a.Text.data.toList.length := by omega
    have h2 : k < b.Text.data.toList.length := by omega
    have c1 : decide ((k : Int) < ((ByteArray.size a.Text : Nat) : Int)) = true := by simp; omega
    have c2 : decide ((k : Int) < ((ByteArray.size b.Text : Nat) : Int)) = true := by simp; omega
    have p1 : 0 ≤ (k : Int) ∧ (k : Int) < ((ByteArray.size a.Text : Nat) : Int) := ⟨by omega, by omega⟩
    have p2 : 0 ≤ (k : Int) ∧ (k : Int) < ((ByteArray.size b.Text : Nat) : Int) := ⟨by omega, by omega⟩
    have hw : IntKind.i64.wrap ((k : Int) + 1) = ((k + 1 : Nat) : Int) := by rw [jJ (by omega) (by omega)]; omega
    have ea := List.drop_eq_getElem_cons h1
    have eb := List.drop_eq_getElem_cons h2
    have hb' : fW a b (k : Int) = some (if a.Text.data.toList[k] = b.Text.data.toList[k] then .inl ((k + 1 : Nat) : Int) else .inr (.inr (zX a.Text.data.toList[k] b.Text.data.toList[k]))) := by
      simp only [fW, c1, c2, Bool.and_self, cond_true, aW p1, aW p2, aAd h1, aAd h2, hw]
      generalize a.Text.data.toList[k] = x
      generalize b.Text.data.toList[k] = y
      by_cases e : x = y
      · subst e; simp
      · have e' : ¬ ((x.toNat : Int) = (y.toNat : Int)) := fun h => e (UInt8.toNat_inj.1 (by omega))
        simp only [e', decide_false, Bool.not_false, cond_true, if_neg e]
        unfold zX
        simp only [UInt8.lt_iff_toNat_lt]
        by_cases l : x.toNat < y.toNat
        · have : ((x.toNat : Int) < (y.toNat : Int)) := by omega
          simp [l]
        · have l2 : y.toNat < x.toNat := by
            rcases Nat.lt_or_ge y.toNat x.toNat with h | h
            · exact h
            · exact absurd (UInt8.toNat_inj.1 (by omega)) e
          simp [l, l2]
    by_cases e : a.Text.data.toList[k] = b.Text.data.toList[k]
    · rw [if_pos e] at hb'
      obtain ⟨x, hx1, hx2⟩ := OW ha hb m (k + 1) (by omega) (by omega)
      refine ⟨x, by rw [eS (show (fun s => fW a b s) (k : Int) = _ from hb')]; exact hx1, ?_⟩
      rw [ea, eb, fP, if_pos e]; exact hx2
    · rw [if_neg e] at hb'
      refine ⟨_, cK (show (fun s => fW a b s) (k : Int) = _ from hb'), .inr ⟨_, rfl, ?_⟩⟩
      rw [ea, eb, fP, if_neg e]

theorem MV {v : aF} (h : rF v = true) : v.Text.size ≤ 64 := by
  rcases HB h with h | ⟨_, h⟩
  · rw [(AX h).2]; decide
  · exact (yM h).2.2

theorem LR {v : aF} (h : rF v = true) : v.Kind = 1 ∨ v.Kind = 2 := by
  rcases HB h with h | ⟨_, h⟩
  · exact .inl (AX h).1
  · exact .inr (yM h).1

theorem OA {a b : aF} (ha : rF a = true) (hb : rF b = true) : pY a b = some (wO a b) := by
  unfold pY
  simp only [JD, ha, hb, Option.bind_some, Bool.not_true, Bool.not_false, cN, cond_true, Bool.or_self, cond_false]
  unfold wO
  by_cases hk : a.Kind = b.Kind
  · rw [if_pos hk]
    by_cases hn : a.Num = b.Num
    · rw [if_pos hn]
      simp only [hk, hn, decide_true, Bool.not_true, cond_false, rG]
      obtain ⟨x, e, hx⟩ := OW (MV ha) (MV hb) _ 0 rfl (Nat.zero_le _)
      simp only [Int.natCast_zero, List.drop_zero] at e hx
      rw [e]
      have ht : KZ a.Text b.Text = fP zX a.Text.data.toList b.Text.data.toList := rfl
      rcases hx with ⟨rfl, h⟩ | ⟨v, rfl, h⟩
      · rw [ht, h]
        simp only [Option.bind_some, Sum.elim_inl, oZ]
        unfold mV
        by_cases h1 : a.Text.size = b.Text.size
        · have h1' : ((a.Text.size : Nat) : Int) = ((b.Text.size : Nat) : Int) := by omega
          simp [h1']
        · have h1' : ¬ ((a.Text.size : Nat) : Int) = ((b.Text.size : Nat) : Int) := by omega
          by_cases h2 : ((a.Text.size : Nat) : Int) < ((b.Text.size : Nat) : Int)
          · simp only [h1', h2, decide_false, decide_true, Bool.not_false, cond_true, if_true]
          · have h3 : ((b.Text.size : Nat) : Int) < ((a.Text.size : Nat) : Int) := by omega
            simp only [h1', h2, h3, decide_false, Bool.not_false, cond_true, cond_false, if_true, if_false]
      · rw [ht, h]; rfl
    · rw [if_neg hn]
      simp only [hk, hn, decide_true, decide_false, Bool.not_true, Bool.not_false, cond_false, cond_true]
      unfold mV
      by_cases h1 : a.Num < b.Num
      · simp [h1]
      · have h2 : b.Num < a.Num := by omega
        simp [h1, h2]
  · rw [if_neg hk]
    simp only [hk, decide_false, Bool.not_false, cond_true]
    rcases LR ha with h1 | h1 <;> rcases LR hb with h2 | h2
    · exact absurd (h1.trans h2.symm) hk
    · rw [h1, h2]; rfl
    · rw [h1, h2]; rfl
    · exact absurd (h1.trans h2.symm) hk

theorem MK {a b : List aF} (ha : iA a = true) (hb : iA b = true) : ∀ (m k : Nat), min a.length b.length - k = m → k ≤ min a.length b.length →
    ∃ x, lp (fun s => fU a b s) (k : Int) = some x ∧ ((x = .inl () ∧ fQ (a.drop k) (b.drop k) = mV a.length b.length) ∨ (∃ v, x = .inr v ∧ fQ (a.drop k) (b.drop k) = v))
  | 0, k, hm, hk => by
    refine ⟨.inl (), cK ?_, .inl ⟨rfl, OU (by omega) (by omega) (by omega)⟩⟩
    show fU a b _ = _
    have : ((decide ((k : Int) < ((a.length : Nat) : Int))) && (decide ((k : Int) < ((b.length : Nat) : Int)))) = false := by
      rw [Bool.and_eq_false_iff]
      simp only [decide_eq_false_iff_not]
      omega
    simp only [fU, this, cond_false]
  | m + 1, k, hm, hk => by
    obtain ⟨la, ma⟩ := wY ha
    obtain ⟨lb, mb⟩ := wY hb
    have h1 : k < a.length := by omega
    have h2 : k < b.length := by omega
    obtain ⟨d1, d2, d3, d4⟩ := idx (List.getElem?_eq_getElem h1) (by omega)
    obtain ⟨e1, e2, e3, _⟩ := idx (List.getElem?_eq_getElem h2) (by omega)
    have ea := List.drop_eq_getElem_cons h1
    have eb := List.drop_eq_getElem_cons h2
    have hb' : fU a b (k : Int) = some (if a[k] = b[k] then .inl ((k + 1 : Nat) : Int) else .inr (.inr (wO a[k] b[k]))) := by
      simp only [fU, d1, e1, Bool.and_self, cond_true, aW d2, aW e2, d3, e3, d4, OA (ma _ (List.getElem_mem h1)) (mb _ (List.getElem_mem h2)), Option.bind_some]
      by_cases h : a[k] = b[k]
      · have := (DS.eq a[k] b[k]).2 h
        simp [h, (DS.eq b[k] b[k]).2 rfl]
      · have : ¬ wO a[k] b[k] = 0 := fun h' => h ((DS.eq _ _).1 h')
        simp [h, this]
    by_cases h : a[k] = b[k]
    · rw [if_pos h] at hb'
      obtain ⟨x, hx1, hx2⟩ := MK ha hb m (k + 1) (by omega) (by omega)
      refine ⟨x, by rw [eS (show (fun s => fU a b s) (k : Int) = _ from hb')]; exact hx1, ?_⟩
      have hc : fQ (a.drop k) (b.drop k) = fQ (a.drop (k + 1)) (b.drop (k + 1)) := by
        rw [ea, eb]; unfold fQ; rw [fP, if_pos h]
      rw [hc]; exact hx2
    · rw [if_neg h] at hb'
      refine ⟨_, cK (show (fun s => fU a b s) (k : Int) = _ from hb'), .inr ⟨_, rfl, ?_⟩⟩
      rw [ea, eb]; unfold fQ; rw [fP, if_neg h]

theorem PW (a b : List aF) (hla : a.length ≤ 17592186044416) (hlb : b.length ≤ 17592186044416) : qA a b = some (if iA a && iA b then fQ a b else 0) := by
  unfold qA
  rw [AT a (by omega)]
  simp only [Option.bind_some]
  cases ha : iA a
  · simp [cN]
  · simp only [Bool.not_true, Bool.not_false, cN, cond_true, AT b (by omega), Option.bind_some, Bool.false_or]
    cases hb : iA b
    · simp
    · simp only [Bool.not_true, cond_false, qY, Bool.and_self, if_true]
      obtain ⟨x, e, hx⟩ := MK ha hb _ 0 rfl (Nat.zero_le _)
      simp only [Int.natCast_zero, List.drop_zero] at e hx
      rw [e]
      rcases hx with ⟨rfl, h⟩ | ⟨v, rfl, h⟩
      · rw [h]
        simp only [Option.bind_some, Sum.elim_inl, oY]
        unfold mV
        by_cases h1 : a.length < b.length
        · simp [h1]
        · by_cases h2 : b.length < a.length <;> simp [h1, h2]
      · rw [h]; rfl

end Go.Abs
namespace Go.Abs
open Go
def jE (e : aC) : aB := ⟨e.At, e.Net⟩

def gA (r : List aF) (f : List aB) : List aC → List (List aF × List aB)
  | [] => [(r, f)]
  | e :: l => if e.Row = r then gA r (f ++ [jE e]) l else (r, f) :: gA e.Row [jE e] l

def groups : List aC → List (List aF × List aB)
  | [] => []
  | e :: l => gA e.Row [jE e] l

def itG {σ : Type} (y : σ → List aF → List aB → Option (σ × Bool)) : List (List aF × List aB) → σ → Option σ
  | [], s => some s
  | g :: gs, s => (y s g.1 g.2).bind fun x => if x.2 then itG y gs x.1 else some x.1

def okL (l : List aC) : Prop := l.length ≤ 3518437208783 ∧ ∀ e ∈ l, e.Row.length ≤ 4398046510976

theorem JI {r : List aF} (h : r.length ≤ 4398046510976) : uD r = some r := by
  unfold uD
  rw [aW ⟨by omega, by omega, by omega⟩, aW (by simp only [List.length_nil, Nat.zero_add]; omega)]
  rfl

theorem KN {σ : Type} {y : σ → List aF → List aB → Option (σ × Bool)} {l : List aC} (hl : okL l) (row : List aF) (sg : σ) : ∀ (r : List aC) (k : Nat) (f : List aB), l.drop k = r → k ≤ l.length → f.length ≤ k →
    ∃ k' f', k ≤ k' ∧ k' ≤ l.length ∧ f'.length ≤ k' ∧ lp (fun s : σ × Int × List aB => iG y l row s.1 s.2.1 s.2.2) (sg, (k : Int), f) = some (sg, ((k' : Nat) : Int), f') ∧
      gA row f r = (row, f') :: groups (l.drop k') ∧ (∀ e r', r = e :: r' → e.Row = row → k < k')
  | [], k, f, hd, hk, hf => by
    have : k = l.length := by
      have := congrArg List.length hd
      simp only [List.length_drop, List.length_nil] at this; omega
    subst this
    refine ⟨l.length, f, Nat.le_refl _, Nat.le_refl _, hf, cK ?_, by simp [gA, groups], fun e r' h => by cases h⟩
    show iG _ _ _ _ _ _ = _
    simp only [iG, dY, cN, cond_false, Option.bind_some, Bool.false_and]
    exact aW (fun h => by cases h)
  | a :: r, k, f, hd, hk, hf => by
    obtain ⟨h1, h2⟩ := drop_cons hd
    have hlt : k < l.length := (List.getElem?_eq_some_iff.1 h1).1
    obtain ⟨hll, hlr⟩ := hl
    obtain ⟨d1, d2, d3, d4⟩ := idx h1 (by omega)
    have har := hlr a (List.mem_of_getElem? h1)
    have hb : (fun s : σ × Int × List aB => iG y l row s.1 s.2.1 s.2.2) (sg, (k : Int), f) = some (if a.Row = row then .inl (sg, ((k + 1 : Nat) : Int), f ++ [jE a]) else .inr (sg, (k : Int), f)) := by
      show iG _ _ _ _ _ _ = _
      simp only [iG, d1, d3, d4, cN, cond_true, EF a.Row row (by omega), Option.bind_some, Bool.true_and]
      rw [aW (fun _ => d2)]
      by_cases e : a.Row = row
      · simp only [e, decide_true, cond_true, if_true]
        rw [aW d2, aW d2, aW (by simp only [List.length_cons, List.length_nil]; omega)]
        rfl
      · simp [e]
    by_cases e : a.Row = row
    · rw [if_pos e] at hb
      obtain ⟨k', f', g1, g2, g3, g4, g5, _⟩ := KN ⟨hll, hlr⟩ row sg r (k + 1) (f ++ [jE a]) h2 (by omega) (by simp; omega) (y := y)
      refine ⟨k', f', by omega, g2, g3, by rw [eS hb]; exact g4, by simp [gA, e, g5], fun _ _ _ _ => by omega⟩
    · rw [if_neg e] at hb
      refine ⟨k, f, Nat.le_refl _, hk, hf, cK hb, ?_, fun b r' h hr => by cases h; exact absurd hr e⟩
      rw [hd]; simp [gA, e, groups]

theorem TZ {σ : Type} {y : σ → List aF → List aB → Option (σ × Bool)} {l : List aC} (hl : okL l) : ∀ (m k : Nat) (sg s' : σ), l.length - k ≤ m → k ≤ l.length → itG y (groups (l.drop k)) sg = some s' →
    ∃ x, lp (fun s : σ × Int => fX y l s.1 s.2) (sg, (k : Int)) = some x ∧ Sum.elim id id x = s' := by
  have stop : ∀ (sg s' : σ), itG y (groups (l.drop l.length)) sg = some s' → ∃ x, lp (fun s : σ × Int => fX y l s.1 s.2) (sg, ((l.length : Nat) : Int)) = some x ∧ Sum.elim id id x = s' := by
    intro sg s' h
    rw [List.drop_length] at h
    simp only [groups, itG, Option.some.injEq] at h
    refine ⟨.inl sg, cK ?_, h⟩
    show fX _ _ _ _ = _
    simp only [fX, dY, cond_false]
  intro m
  induction m with
  | zero =>
    intro k sg s' hm hk h
    have : k = l.length := by omega
    subst this; exact stop sg s' h
  | succ m ih =>
    intro k sg s' hm hk h
    by_cases he : k = l.length
    · subst he; exact stop sg s' h
    · have hlt : k < l.length := by omega
      have hd : l.drop k = l[k] :: l.drop (k + 1) := List.drop_eq_getElem_cons hlt
      obtain ⟨d1, d2, d3, d4⟩ := idx (List.getElem?_eq_getElem hlt) (by have := hl.1; omega)
      obtain ⟨k', f', g1, g2, g3, g4, g5, g6⟩ := KN hl l[k].Row sg (l.drop k) k [] rfl hk (by simp) (y := y)
      have hk' := g6 _ _ hd rfl
      have hg : groups (l.drop k) = (l[k].Row, f') :: groups (l.drop k') := by
        rw [← g5, hd]; simp [groups, gA]
      rw [hg] at h
      simp only [itG] at h
      obtain ⟨x, hx, h⟩ := aX h
      have hrow := hl.2 _ (List.getElem_mem hlt)
      have hb : (fun s : σ × Int => fX y l s.1 s.2) (sg, (k : Int)) = some (if x.2 then .inl (x.1, ((k' : Nat) : Int)) else .inr (.inr x.1)) := by
        show fX _ _ _ _ = _
        simp only [fX, d1, cond_true, aW d2, d3, rE, g4, Option.bind_some, oX, JI hrow, hx]
        cases x.2 <;> simp
      cases hx2 : x.2
      · rw [hx2] at hb h
        simp only [Bool.false_eq_true, if_false, Option.some.injEq] at hb h
        exact ⟨_, cK hb, h⟩
      · rw [hx2] at hb h
        simp only [if_true] at hb h
        obtain ⟨z, hz1, hz2⟩ := ih k' x.1 s' (by omega) g2 h
        exact ⟨z, by rw [eS hb]; exact hz1, hz2⟩

theorem LL {σ : Type} {y : σ → List aF → List aB → Option (σ × Bool)} {l : List aC} (hl : okL l) {s s' : σ} (h : itG y (groups l) s = some s') : mF y l s = some s' := by
  unfold mF rH
  obtain ⟨x, h1, h2⟩ := TZ hl l.length 0 s s' (by omega) (Nat.zero_le _) (by simpa using h)
  simp only [Int.natCast_zero] at h1
  rw [h1]
  cases x <;> simpa using h2

def ahd (last : Option (List aF)) (r : List aF) : Bool := match last with
  | none => true
  | some q => decide (fQ q r < 0)

def wI (p : List aB → Bool) : Option (List aF) → List (List aF × List aB) → Bool
  | _, [] => true
  | last, g :: gs => (iA g.1 && ahd last g.1 && p g.2) && wI p (some g.1) gs

theorem TL {holds : List aB → Option Bool} {p : List aB → Bool} (hp : ∀ f, holds f = some (p f)) (c : List aC) (t : Bool) : ∀ (gs : List (List aF × List aB)) (last : List aF) (b : Bool), (b = true → iA last = true) →
    ∃ x, itG (fun st r f => rnd (fun (s : Bool × (List aF) × Bool) => pG holds c s.1 s.2.1 s.2.2 r f) st) gs (.inl (t, last, b)) = some x ∧
      (if wI p (if b then some last else none) gs then ∃ u, x = .inl (t, u) else ∃ u, x = .inr (false, u))
  | [], last, b, _ => ⟨_, rfl, by simp [wI]⟩
  | g :: gs, last, b, hb => by
    have hy : pG holds c t last b g.1 g.2 = some (if iA g.1 && ahd (if b then some last else none) g.1 && p g.2 then .inl (t, g.1, true) else .inr (false, last, b)) := by
      unfold pG
      simp only [AY, Option.bind_some, LY, hp]
      cases hm : iA g.1
      · simp [cN]
      · cases b
        · cases h2 : p g.2 <;> simp [cN, ahd, h2]
        · have hl := hb rfl
          by_cases h1 : fQ last g.1 < 0
          · have h1' : ¬ (0 ≤ fQ last g.1) := by omega
            cases h2 : p g.2 <;> simp [cN, ahd, h2, hl, h1, h1']
          · have h1' : 0 ≤ fQ last g.1 := by omega
            simp [cN, ahd, hl, h1, h1']
    cases hc : (iA g.1 && ahd (if b then some last else none) g.1 && p g.2)
    · rw [hc] at hy
      simp only [itG, rnd, hy, Option.bind_some, wI, hc]
      exact ⟨.inr (false, last, b), by simp, by simp⟩
    · rw [hc] at hy
      simp only [itG, rnd, hy, Option.bind_some, wI, hc]
      have hm : iA g.1 = true := by simp only [Bool.and_eq_true] at hc; exact hc.1.1
      obtain ⟨x, h1, h2⟩ := TL hp c t gs g.1 true (fun _ => hm)
      refine ⟨x, ?_, ?_⟩
      · simpa [rnd] using h1
      · simpa using h2

theorem SX {l : List aC} (hl : okL l) {holds : List aB → Option Bool} {p : List aB → Bool} (hp : ∀ f, holds f = some (p f)) : sP l holds = some (decide (l.length ≤ 4096) && wI p none (groups l)) := by
  unfold sP
  by_cases h : l.length ≤ 4096
  · have h1 : decide ((4096 : Int) < ((l.length : Nat) : Int)) = false := by simp; omega
    rw [h1, cond_false]
    simp only [oM, Option.bind_some, xS]
    obtain ⟨x, e1, e2⟩ := TL hp l false (groups l) [] false (fun h => by cases h)
    rw [LL hl e1]
    simp only [Bool.false_eq_true, if_false] at e2
    simp only [h, decide_true, Bool.true_and]
    cases hc : wI p none (groups l)
    · rw [hc] at e2
      simp only [Bool.false_eq_true, if_false] at e2
      obtain ⟨u, rfl⟩ := e2
      rfl
    · rw [hc] at e2
      simp only [if_true] at e2
      obtain ⟨u, rfl⟩ := e2
      rfl
  · have h1 : decide ((4096 : Int) < ((l.length : Nat) : Int)) = true := by simp; omega
    rw [h1, cond_true]
    simp [h]

def qG (l : List aC) : Bool := decide (l.length ≤ 4096) && wI lH none (groups l)

theorem GY {l : List aC} (hl : okL l) : oF l = some (qG l) := by
  unfold oF
  rw [SX hl (p := lH) (fun f => JV f)]; rfl

def LK (f : List aB) : Bool := lH f && decide (0 ≤ CX f)

def BN (l : List aC) : Bool := decide (l.length ≤ 4096) && wI LK none (groups l)

theorem MY {l : List aC} (hl : okL l) : qQ l = some (BN l) := by
  unfold qQ
  rw [SX hl (p := LK) (fun f => by
    unfold qP LK
    rw [JV]
    cases h : lH f <;> simp [cN, YX, h])]
  rfl

def eV (r : List aF) (f : List aB) : List aC := f.map fun j => ⟨r, j.At, j.Net⟩

theorem put_eq {out : List aC} {r : List aF} {f : List aB} (hr : r.length ≤ 4398046510976) (hl : out.length + f.length ≤ 1099511627776) : xK out r f = some (out ++ eV r f) := by
  unfold xK zJ
  rw [nR (l := f) (body := fun s : List aC × Int => oO r f (f.length : Nat) s.1 s.2) (fun o i => (o, i)) (fun o t => o ++ eV r t) (fun o t => o.length + t.length ≤ 1099511627776) out ?_ ?_ hl]
  · rfl
  · intro i a t o ha hi
    left
    obtain ⟨d1, d2, d3, d4⟩ := idx ha (by have := (List.getElem?_eq_some_iff.1 ha).1; omega)
    simp only [List.length_cons] at hi
    refine ⟨o ++ [⟨r, a.At, a.Net⟩], ?_, by simp; omega, by simp [eV]⟩
    show oO _ _ _ _ _ = _
    simp only [oO, d1, cond_true, aW d2, d3, d4, JI hr, Option.bind_some]
    exact aW (by simp only [List.length_cons, List.length_nil]; omega)
  · intro o _
    show oO _ _ _ _ _ = _
    simp only [oO, dY, cond_false]
    simp [eV]

def qR (by1 : List aB → List aB × Int) : List (List aF × List aB) → List aC → List aC × Int
  | [], out => (out, 0)
  | g :: gs, out => if (by1 g.2).2 ≠ 0 then ([], (by1 g.2).2) else if 4096 < (out ++ eV g.1 (by1 g.2).1).length then ([], 7) else qR by1 gs (out ++ eV g.1 (by1 g.2).1)

theorem MU {by0 : List aB → Option (List aB × Int)} {by1 : List aB → List aB × Int} (c : List aC) : ∀ (gs : List (List aF × List aB)) (out : List aC), out.length ≤ 4096 → (∀ g ∈ gs, by0 g.2 = some (by1 g.2) ∧ (by1 g.2).1.length ≤ 1024 ∧ g.1.length ≤ 4398046510976) →
    ∃ x, itG (fun st r f => rnd (fun (s : (List aC) × Int × List aC) => nE by0 c s.1 s.2.1 s.2.2 r f) st) gs (.inl ([], 0, out)) = some x ∧ Sum.elim (fun s : (List aC) × Int × List aC => (s.2.2, (0 : Int))) (fun s => (s.1, s.2.1)) x = qR by1 gs out
  | [], out, _, _ => ⟨_, rfl, rfl⟩
  | g :: gs, out, ho, hg => by
    obtain ⟨h1, h2, h3⟩ := hg g (by simp)
    have hy : nE by0 c [] 0 out g.1 g.2 = some (if (by1 g.2).2 ≠ 0 then .inr ([], (by1 g.2).2, out) else if 4096 < (out ++ eV g.1 (by1 g.2).1).length then .inr ([], 7, out ++ eV g.1 (by1 g.2).1) else .inl ([], 0, out ++ eV g.1 (by1 g.2).1)) := by
      unfold nE
      simp only [h1, Option.bind_some, put_eq h3 (show out.length + (by1 g.2).1.length ≤ 1099511627776 by omega)]
      by_cases e1 : (by1 g.2).2 = 0
      · by_cases e2 : 4096 < (out ++ eV g.1 (by1 g.2).1).length
        · have e2' : (4096 : Int) < (((out ++ eV g.1 (by1 g.2).1).length : Nat) : Int) := by omega
          simp only [e1, e2, e2', decide_true, Bool.not_true, cond_false, cond_true, ne_eq, not_true_eq_false, if_false, if_true]
        · have e2' : ¬ (4096 : Int) < (((out ++ eV g.1 (by1 g.2).1).length : Nat) : Int) := by omega
          simp only [e1, e2, e2', decide_true, decide_false, Bool.not_true, cond_false, ne_eq, not_true_eq_false, if_false]
      · simp only [e1, decide_false, Bool.not_false, cond_true, ne_eq, not_false_eq_true, if_true]
    simp only [itG, rnd, hy, Option.bind_some, qR]
    by_cases e1 : (by1 g.2).2 ≠ 0
    · rw [if_pos e1, if_pos e1]; exact ⟨_, rfl, rfl⟩
    · rw [if_neg e1, if_neg e1]
      by_cases e2 : 4096 < (out ++ eV g.1 (by1 g.2).1).length
      · rw [if_pos e2, if_pos e2]; exact ⟨_, rfl, rfl⟩
      · rw [if_neg e2, if_neg e2]
        exact MU c gs _ (by omega) (fun q hq => hg q (by simp [hq]))

theorem WH {l : List aC} (hl : okL l) {by0 : List aB → Option (List aB × Int)} {by1 : List aB → List aB × Int} (hb : ∀ g ∈ groups l, by0 g.2 = some (by1 g.2) ∧ (by1 g.2).1.length ≤ 1024 ∧ g.1.length ≤ 4398046510976) : rW l by0 = some (qR by1 (groups l) []) := by
  unfold rW
  simp only [oM, Option.bind_some, uK]
  obtain ⟨x, e1, e2⟩ := MU (by0 := by0) (by1 := by1) l (groups l) [] (by simp) hb
  rw [LL hl e1]
  cases x <;> simpa using e2

def flat (gs : List (List aF × List aB)) : List aC := gs.flatMap fun g => eV g.1 g.2

theorem LP : ∀ (l : List aC) (r : List aF) (f : List aB), flat (gA r f l) = eV r f ++ l
  | [], r, f => by simp [gA, flat]
  | e :: l, r, f => by
    unfold gA
    split
    · rename_i h
      rw [LP l r]
      simp [eV, jE, ← h]
    · have := LP l e.Row [jE e]
      simp only [flat, List.flatMap_cons] at this ⊢
      rw [this]
      simp [eV, jE]

theorem HH (l : List aC) : flat (groups l) = l := by
  cases l with
  | nil => rfl
  | cons e l => unfold groups; rw [LP]; simp [eV, jE]

theorem OK {r : List aF} : ∀ {l : List aC} {f : List aB} {g : List aF × List aB}, g ∈ gA r f l → f ≠ [] → g.2 ≠ [] ∧ (g.1 = r ∨ ∃ e ∈ l, g.1 = e.Row)
  | [], f, g, h, hf => by simp only [gA, List.mem_singleton] at h; subst h; exact ⟨hf, .inl rfl⟩
  | e :: l, f, g, h, hf => by
    unfold gA at h
    split at h
    · obtain ⟨h1, h2⟩ := OK h (by simp)
      exact ⟨h1, h2.imp id fun ⟨x, hx, hx'⟩ => ⟨x, by simp [hx], hx'⟩⟩
    · rcases List.mem_cons.1 h with rfl | h
      · exact ⟨hf, .inl rfl⟩
      · obtain ⟨h1, h2⟩ := OK (r := e.Row) h (by simp)
        refine ⟨h1, .inr ?_⟩
        rcases h2 with h2 | ⟨x, hx, hx'⟩
        · exact ⟨e, by simp, h2⟩
        · exact ⟨x, by simp [hx], hx'⟩

theorem IY {l : List aC} {g : List aF × List aB} (h : g ∈ groups l) : g.2 ≠ [] ∧ ∃ e ∈ l, g.1 = e.Row := by
  cases l with
  | nil => simp [groups] at h
  | cons e l =>
    obtain ⟨h1, h2⟩ := OK h (by simp)
    refine ⟨h1, ?_⟩
    rcases h2 with h2 | ⟨x, hx, hx'⟩
    · exact ⟨e, by simp, h2⟩
    · exact ⟨x, by simp [hx], hx'⟩

end Go.Abs
namespace Go.Abs
open Go
def cC (l : List aC) (r : List aF) : List aB := (l.filter fun e => decide (e.Row = r)).map jE

theorem DE (a b : List aC) (r : List aF) : cC (a ++ b) r = cC a r ++ cC b r := by simp [cC]

theorem NO (q : List aF) (f : List aB) (r : List aF) : cC (eV q f) r = if q = r then f else [] := by
  induction f with
  | nil => simp [cC, eV]
  | cons j f ih =>
    have h1 : eV q (j :: f) = [⟨q, j.At, j.Net⟩] ++ eV q f := rfl
    rw [h1, DE, ih]
    by_cases h : q = r <;> simp [cC, jE, h]

def look : List (List aF × List aB) → List aF → List aB
  | [], _ => []
  | g :: gs, r => if g.1 = r then g.2 else look gs r

theorem uC (g : List aF × List aB) (gs : List (List aF × List aB)) (r : List aF) : look (g :: gs) r = if g.1 = r then g.2 else look gs r := rfl

abbrev ltG (a b : List aF × List aB) : Prop := fQ a.1 b.1 < 0

abbrev uP (gs : List (List aF × List aB)) : Prop := gs.Pairwise ltG

abbrev Full (gs : List (List aF × List aB)) : Prop := ∀ g ∈ gs, g.2 ≠ []

theorem wK {a : List aF} : ¬ fQ a a < 0 := by rw [(nA.eq a a).2 rfl]; omega

theorem MA : ∀ {gs : List (List aF × List aB)} {r : List aF}, (∀ g ∈ gs, g.1 ≠ r) → look gs r = []
  | [], _, _ => rfl
  | g :: gs, r, h => by
    rw [uC]
    rw [if_neg (h g (by simp))]
    exact MA fun q hq => h q (by simp [hq])

theorem AI (gs : List (List aF × List aB)) (r : List aF) : (look gs r = [] ∧ ∀ g ∈ gs, g.1 ≠ r) ∨ ∃ g ∈ gs, g.1 = r ∧ look gs r = g.2 := by
  induction gs with
  | nil => exact .inl ⟨rfl, by simp⟩
  | cons g gs ih =>
    rw [uC]
    by_cases h : g.1 = r
    · rw [if_pos h]; exact .inr ⟨g, by simp, h, rfl⟩
    · rw [if_neg h]
      rcases ih with ⟨h1, h2⟩ | ⟨q, hq, h1, h2⟩
      · refine .inl ⟨h1, fun q hq => ?_⟩
        rcases List.mem_cons.1 hq with rfl | hq
        · exact h
        · exact h2 q hq
      · exact .inr ⟨q, by simp [hq], h1, h2⟩

theorem IQ {gs : List (List aF × List aB)} (hs : uP gs) {g : List aF × List aB} (hg : g ∈ gs) : look gs g.1 = g.2 := by
  induction gs with
  | nil => simp at hg
  | cons q gs ih =>
    have hs' := List.pairwise_cons.1 hs
    rw [uC]
    rcases List.mem_cons.1 hg with rfl | hg
    · rw [if_pos rfl]
    · rw [if_neg (fun e => by have := hs'.1 g hg; simp only [ltG, e] at this; exact wK this)]
      exact ih hs'.2 hg

theorem tM (g : List aF × List aB) (gs : List (List aF × List aB)) : flat (g :: gs) = eV g.1 g.2 ++ flat gs := rfl

theorem yJ : ∀ {gs : List (List aF × List aB)}, uP gs → ∀ r, cC (flat gs) r = look gs r
  | [], _, r => rfl
  | g :: gs, hs, r => by
    have hs' := List.pairwise_cons.1 hs
    rw [tM, DE, NO, yJ hs'.2, uC]
    by_cases h : g.1 = r
    · rw [if_pos h, if_pos h, MA, List.append_nil]
      intro q hq e
      have := hs'.1 q hq
      simp only [ltG, h, e] at this; exact wK this
    · rw [if_neg h, if_neg h]; rfl

theorem wU {p : List aB → Bool} : ∀ {gs : List (List aF × List aB)} {last : Option (List aF)}, wI p last gs = true ↔ (∀ g ∈ gs, iA g.1 = true ∧ p g.2 = true) ∧ uP gs ∧ (∀ q, last = some q → ∀ g ∈ gs, fQ q g.1 < 0)
  | [], last => by simp [wI]
  | g :: gs, last => by
    unfold wI
    simp only [Bool.and_eq_true, wU (gs := gs), List.mem_cons, List.pairwise_cons]
    constructor
    · rintro ⟨⟨⟨h1, h2⟩, h3⟩, h4, h5, h6⟩
      refine ⟨?_, ⟨fun q hq => h6 _ rfl q hq, h5⟩, ?_⟩
      · rintro q (rfl | hq)
        · exact ⟨h1, h3⟩
        · exact h4 q hq
      · rintro q rfl x (rfl | hx)
        · simpa [ahd] using h2
        · simp only [ahd, decide_eq_true_eq] at h2
          exact nA.trans _ _ _ h2 (h6 _ rfl x hx)
    · rintro ⟨h1, ⟨h2, h3⟩, h4⟩
      refine ⟨⟨⟨(h1 g (.inl rfl)).1, ?_⟩, (h1 g (.inl rfl)).2⟩, fun q hq => h1 q (.inr hq), h3, ?_⟩
      · unfold ahd
        split
        · rfl
        · exact decide_eq_true (h4 _ rfl g (.inl rfl))
      · rintro q hq x hx
        cases hq
        exact h2 x hx

theorem yK {l : List aC} (h : qG l = true) : l.length ≤ 4096 ∧ (∀ g ∈ groups l, iA g.1 = true ∧ lH g.2 = true) ∧ uP (groups l) := by
  simp only [qG, Bool.and_eq_true, decide_eq_true_eq] at h
  obtain ⟨h1, h2, _⟩ := wU.1 h.2
  exact ⟨h.1, h1, h2⟩

theorem WT {l : List aC} (h : qG l = true) (r : List aF) : lH (look (groups l) r) = true := by
  rcases AI (groups l) r with ⟨h1, _⟩ | ⟨g, hg, _, h1⟩
  · rw [h1]; exact aAI
  · rw [h1]; exact ((yK h).2.1 g hg).2

theorem qW {l : List aC} (h : uP (groups l)) (r : List aF) : look (groups l) r = cC l r := by
  rw [← yJ h, HH]

theorem TU (r : List aF) (f : List aB) (e : aC) (l : List aC) : gA r f (e :: l) = if e.Row = r then gA r (f ++ [jE e]) l else (r, f) :: gA e.Row [jE e] l := rfl

theorem PU (r : List aF) : ∀ (f2 f : List aB) (l : List aC), gA r f (eV r f2 ++ l) = gA r (f ++ f2) l
  | [], f, l => by simp [eV]
  | j :: f2, f, l => by
    show gA r f (⟨r, j.At, j.Net⟩ :: (eV r f2 ++ l)) = _
    rw [TU, if_pos rfl, PU r f2]
    simp [jE]

theorem MD : ∀ {gs : List (List aF × List aB)}, uP gs → Full gs → groups (flat gs) = gs
  | [], _, _ => rfl
  | (r, f) :: gs, hs, hf => by
    have hs' := List.pairwise_cons.1 hs
    have hne := hf (r, f) (by simp)
    have ih := MD hs'.2 (fun g hg => hf g (by simp [hg]))
    cases f with
    | nil => exact absurd rfl hne
    | cons j f =>
      rw [tM]
      show gA r [jE ⟨r, j.At, j.Net⟩] (eV r f ++ flat gs) = _
      rw [PU]
      have key : ∀ (F : List aB), gA r F (flat gs) = (r, F) :: groups (flat gs) := by
        intro F
        cases gs with
        | nil => rfl
        | cons g gs =>
          obtain ⟨q, f'⟩ := g
          have hq := hf (q, f') (by simp)
          cases f' with
          | nil => exact absurd rfl hq
          | cons j' f' =>
            have hqr : q ≠ r := fun e => by
              have := hs'.1 (q, j' :: f') (by simp)
              simp only [ltG, e] at this; exact wK this
            rw [tM]
            show gA r F (⟨q, j'.At, j'.Net⟩ :: (eV q f' ++ flat gs)) = _
            rw [gA, if_neg hqr]
            rfl
      rw [key, ih]
      rfl

def FN (gs : List (List aF × List aB)) : List (List aF × List aB) := gs.filter fun g => !g.2.isEmpty

theorem CD : ∀ (gs : List (List aF × List aB)), flat (FN gs) = flat gs
  | [] => rfl
  | (r, []) :: gs => by
    have : FN ((r, []) :: gs) = FN gs := rfl
    rw [this, CD gs, tM]; rfl
  | (r, j :: f) :: gs => by
    have : FN ((r, j :: f) :: gs) = (r, j :: f) :: FN gs := rfl
    rw [this, tM, tM, CD gs]

theorem XX (gs : List (List aF × List aB)) : Full (FN gs) := by
  intro g hg
  have := (List.mem_filter.1 hg).2
  intro h; rw [h] at this; simp at this

theorem BZ {gs : List (List aF × List aB)} (hs : uP gs) : groups (flat gs) = FN gs := by
  rw [← CD]
  exact MD (hs.filter _) (XX gs)

theorem WD {gs : List (List aF × List aB)} (hs : uP gs) (r : List aF) : look (groups (flat gs)) r = look gs r := by
  have h1 := yJ (gs := FN gs) (hs.filter _) r
  rw [BZ hs, ← h1, ← yJ hs, CD]

theorem XL {gs : List (List aF × List aB)} (hs : uP gs) (hm : ∀ g ∈ gs, iA g.1 = true ∧ lH g.2 = true) (hl : (flat gs).length ≤ 4096) : qG (flat gs) = true := by
  simp only [qG, Bool.and_eq_true, decide_eq_true_eq]
  refine ⟨hl, wU.2 ?_⟩
  rw [BZ hs]
  exact ⟨fun g hg => hm g (List.mem_filter.1 hg).1, hs.filter _, by simp⟩

def GP (by1 : List aB → List aB × Int) (gs : List (List aF × List aB)) : List (List aF × List aB) := gs.map fun g => (g.1, (by1 g.2).1)

theorem OT {by1 : List aB → List aB × Int} {gs : List (List aF × List aB)} (hs : uP gs) : uP (GP by1 gs) := by
  rw [uP, GP, List.pairwise_map]; exact hs

theorem LV {by1 : List aB → List aB × Int} (h0 : (by1 []).1 = []) : ∀ (gs : List (List aF × List aB)) (r : List aF), look (GP by1 gs) r = (by1 (look gs r)).1
  | [], r => h0.symm
  | g :: gs, r => by
    show look ((g.1, (by1 g.2).1) :: GP by1 gs) r = _
    rw [uC, uC]
    by_cases h : g.1 = r
    · rw [if_pos h, if_pos h]
    · rw [if_neg h, if_neg h]; exact LV h0 gs r

theorem TK {by1 : List aB → List aB × Int} : ∀ {gs : List (List aF × List aB)} {out : List aC}, out.length ≤ 4096 → (qR by1 gs out).2 = 0 → (∀ g ∈ gs, (by1 g.2).2 = 0) ∧ (qR by1 gs out).1 = out ++ flat (GP by1 gs) ∧ (qR by1 gs out).1.length ≤ 4096
  | [], out, ho, _ => by simp [qR, GP, flat, ho]
  | g :: gs, out, ho, h => by
    unfold qR at h ⊢
    by_cases e1 : (by1 g.2).2 = 0
    · rw [if_neg (by simp [e1])] at h ⊢
      by_cases e2 : 4096 < (out ++ eV g.1 (by1 g.2).1).length
      · rw [if_pos e2] at h; simp at h
      · rw [if_neg e2] at h ⊢
        obtain ⟨h1, h2, h3⟩ := TK (by omega) h
        refine ⟨?_, ?_, h3⟩
        · intro q hq
          rcases List.mem_cons.1 hq with rfl | hq
          · exact e1
          · exact h1 q hq
        · rw [h2]; simp [GP, tM]
    · rw [if_pos e1] at h; exact absurd h e1

theorem PI {by1 : List aB → List aB × Int} : ∀ {gs : List (List aF × List aB)} {out : List aC}, (qR by1 gs out).2 ≠ 0 → (qR by1 gs out).1 = []
  | [], out, h => by simp [qR] at h
  | g :: gs, out, h => by
    unfold qR at h ⊢
    split
    · rfl
    · rename_i e1
      rw [if_neg e1] at h
      split
      · rfl
      · rename_i e2
        rw [if_neg e2] at h
        exact PI h

theorem MI {l : List aC} (hl : okL l) {g : List aF × List aB} (hg : g ∈ groups l) : g.1.length ≤ 4398046510976 := by
  obtain ⟨_, e, he, h⟩ := IY hg
  rw [h]; exact hl.2 e he

theorem SW {f g : List aC} (hl : okL f) : tA f g = some (decide (f = g)) := by
  unfold tA
  by_cases he : f.length = g.length
  · rw [JN he, cond_false]
    unfold wB
    have := KC (f := f) (g := g) (body := fun s => pU f g s) he ?_ ?_ f.length 0 rfl (Nat.zero_le _)
    · simp only [Int.natCast_zero, List.drop_zero] at this
      rw [this]
      by_cases h : f = g <;> simp [h, rN]
    · intro i x y hx hy
      have hll := hl.1
      obtain ⟨d1, d2, d3, d4⟩ := idx hx (by omega)
      obtain ⟨_, e2, e3, _⟩ := idx hy (by omega)
      have hr := hl.2 x (List.mem_of_getElem? hx)
      simp only [pU, d1, cond_true, aW d2, aW e2, d3, e3, d4, cN]
      rw [aW (fun _ => d2), aW (fun _ => e2), aW (fun _ => d2), aW (fun _ => e2), AE x.Row y.Row (by omega)]
      obtain ⟨x1, x2, x3⟩ := x
      obtain ⟨y1, y2, y3⟩ := y
      by_cases h1 : x2 = y2 <;> by_cases h2 : x3 = y3 <;> by_cases h3 : x1 = y1 <;> simp [h1, h2, h3]
    · simp only [pU, dY, cond_false]
  · rw [JM he, cond_true]
    have : f ≠ g := fun h => he (by rw [h])
    simp [this]

end Go.Abs
namespace Go.Abs
theorem WW : @dL = @nF aC _ := rfl

theorem UH : @dU = @dX aC _ := rfl

theorem PR (cmp) : ∀ k, @gN cmp k = @dZ aC _ cmp k
  | 0 => rfl
  | k + 1 => by
    show dU cmp _ = dX cmp _
    rw [PR cmp k, UH]

theorem XG : @eN = @oR aC _ := by
  funext d a m b cmp
  unfold eN oR
  simp only [PR]

theorem OV : @fG = @wW aC _ := by
  funext d n cmp
  unfold fG wW iW zG
  unfold iT mB fA yX
  unfold iV zI iM jV
  unfold iI vF iC lZ
  unfold eY uW
  rw [XG, WW]
  rfl

end Go.Abs
namespace Go.Abs
open Go
theorem FU {l : List aC} {f : aC → Option Bool} {g : aC → Bool} (hl : l.length ≤ 1099511627776) (hf : ∀ x ∈ l, f x = some (g x)) : cQ l f = some (l.any g) := by
  unfold cQ fS fM
  obtain ⟨x, e, hx⟩ := DO hl hf l 0 rfl (Nat.zero_le _)
  have e' : lp (fun s => fO f l (l.length : Nat) s) 0 = some x := e
  rw [e']
  rcases hx with ⟨rfl, h⟩ | ⟨i, rfl, _, _, h, _⟩
  · simp [dP, h]
  · simp [h]

def unE (e : aC) : Bool := ((!iA e.Row) || (decide ((1048576 : Int) < e.Net))) || (decide (e.Net < (-1048576 : Int)))

def BD (e : aC) : Bool := (decide (e.At < (-1 : Int))) || (decide ((1125899906842624 : Int) < e.At))

def UE (x y : aC) : Int := if fQ x.Row y.Row ≠ 0 then fQ x.Row y.Row else mV x.At y.At

abbrev okE (x : aC) : Prop := iA x.Row = true

abbrev leE (x y : aC) : Prop := fQ x.Row y.Row < 0 ∨ (x.Row = y.Row ∧ x.At ≤ y.At)

theorem or_eq (a b : Int) : tS [a, b] = some (if a ≠ 0 then a else b) := by
  unfold tS vR
  have w1 : IntKind.i64.wrap (1 : Int) = 1 := by rw [jJ] <;> omega
  have w2 : IntKind.i64.wrap (2 : Int) = 2 := by rw [jJ] <;> omega
  have b0 : (fun s => gZ 0 [a, b] (([a, b] : List Int).length : Nat) s) (0 : Int) = some (if a ≠ 0 then .inr (.inr a) else .inl 1) := by
    show gZ _ _ _ _ = _
    unfold gZ
    rw [aW ⟨by omega, by simp⟩]
    by_cases h : a = 0 <;> simp [h, w1]
  have b1 : (fun s => gZ 0 [a, b] (([a, b] : List Int).length : Nat) s) (1 : Int) = some (if b ≠ 0 then .inr (.inr b) else .inl 2) := by
    show gZ _ _ _ _ = _
    unfold gZ
    rw [aW ⟨by omega, by simp⟩]
    by_cases h : b = 0 <;> simp [h, w2]
  have b2 : (fun s => gZ 0 [a, b] (([a, b] : List Int).length : Nat) s) (2 : Int) = some (.inr (.inl ())) := by
    show gZ _ _ _ _ = _
    unfold gZ
    simp
  by_cases h : a = 0
  · rw [if_neg (by simp [h])] at b0
    rw [eS b0]
    by_cases h2 : b = 0
    · rw [if_neg (by simp [h2])] at b1
      rw [eS b1, cK b2]
      simp [sE, h, h2]
    · rw [if_pos h2] at b1
      rw [cK b1]
      simp [h]
  · rw [if_pos h] at b0
    rw [cK b0]
    simp [h]

theorem aAN {x y : aC} (hx : okE x) (hy : okE y) : mO x y = some (UE x y) := by
  unfold mO UE
  rw [LY, hx, hy]
  simp only [Bool.and_self, if_true, Option.bind_some, LQ, or_eq]

theorem aAA (x y : aC) : UE x y < 0 ↔ ¬ leE y x := by
  unfold UE leE
  have ha := nA.anti x.Row y.Row
  have hb := nA.anti y.Row x.Row
  have he := nA.eq x.Row y.Row
  by_cases h : fQ x.Row y.Row = 0
  · rw [if_neg (by simp [h])]
    have e := he.1 h
    have : ¬ fQ y.Row x.Row < 0 := by rw [e]; exact wK
    unfold mV
    constructor
    · intro h1 h2
      rcases h2 with h2 | ⟨_, h2⟩
      · exact this h2
      · split at h1
        · omega
        · split at h1 <;> omega
    · intro h1
      have : ¬ y.At ≤ x.At := fun h2 => h1 (.inr ⟨e.symm, h2⟩)
      rw [if_pos (by omega)]; omega
  · rw [if_pos h]
    have hne : y.Row ≠ x.Row := fun e => h (he.2 e.symm)
    constructor
    · intro h1 h2
      rcases h2 with h2 | ⟨h2, _⟩
      · have := hb.1 h2; omega
      · exact hne h2
    · intro h1
      have : ¬ fQ y.Row x.Row < 0 := fun h2 => h1 (.inl h2)
      rw [hb] at this
      omega

theorem XU (x y : aC) : leE x y ∨ leE y x := by
  unfold leE
  by_cases h : fQ x.Row y.Row = 0
  · have e := (nA.eq _ _).1 h
    rcases Int.le_total x.At y.At with h1 | h1
    · exact .inl (.inr ⟨e, h1⟩)
    · exact .inr (.inr ⟨e.symm, h1⟩)
  · by_cases h1 : fQ x.Row y.Row < 0
    · exact .inl (.inl h1)
    · exact .inr (.inl ((nA.anti _ _).2 (by omega)))

theorem XN {x y z : aC} (h1 : leE x y) (h2 : leE y z) : leE x z := by
  rcases h1 with h1 | ⟨e1, h1⟩ <;> rcases h2 with h2 | ⟨e2, h2⟩
  · exact .inl (nA.trans _ _ _ h1 h2)
  · exact .inl (e2 ▸ h1)
  · exact .inl (e1.symm ▸ h2)
  · exact .inr ⟨e1.trans e2, by omega⟩

theorem aBy : Cmp okE leE (fun y0 y1 => mO y0 y1) where
  ans x y hx hy := ⟨_, aAN hx hy, aAA x y⟩
  trans x y z _ _ _ h1 h2 := XN h1 h2
  total x y _ _ := XU x y

theorem aBB {l : List aC} (hl : l.length ≤ 1099511627776) (ho : ∀ e ∈ l, okE e) : ∃ r, r.Perm l ∧ Srt leE r ∧ dF l (fun y0 y1 => mO y0 y1) = some r := by
  obtain ⟨r, r1, r2, r3⟩ := ME aBy (d := l) ho hl
  refine ⟨r, r1, r2, ?_⟩
  unfold dF
  rw [OV, r3]; rfl

theorem RC : ∀ {l : List aC} {r : List aF} {f : List aB}, Srt leE l → (∀ e ∈ l, e.Row = r ∨ fQ r e.Row < 0) → uP (gA r f l) ∧ ∀ g ∈ gA r f l, g.1 = r ∨ fQ r g.1 < 0
  | [], r, f, _, _ => by simp [gA]
  | e :: l, r, f, hs, hr => by
    have hs' := List.pairwise_cons.1 hs
    rw [TU]
    by_cases h : e.Row = r
    · rw [if_pos h]
      exact RC hs'.2 (fun x hx => hr x (by simp [hx]))
    · rw [if_neg h]
      have hlt : fQ r e.Row < 0 := (hr e (by simp)).resolve_left h
      obtain ⟨h1, h2⟩ := RC (r := e.Row) (f := [jE e]) hs'.2 (fun x hx => by
        rcases hs'.1 x hx with h | ⟨h, _⟩
        · exact .inr h
        · exact .inl h.symm)
      have key : ∀ g ∈ gA e.Row [jE e] l, fQ r g.1 < 0 := fun g hg => by
        rcases h2 g hg with h | h
        · rw [h]; exact hlt
        · exact nA.trans _ _ _ hlt h
      refine ⟨List.pairwise_cons.2 ⟨key, h1⟩, ?_⟩
      intro g hg
      rcases List.mem_cons.1 hg with rfl | hg
      · exact .inl rfl
      · exact .inr (key g hg)

theorem xV {l : List aC} (hs : Srt leE l) : uP (groups l) := by
  cases l with
  | nil => exact List.Pairwise.nil
  | cons e l =>
    have hs' := List.pairwise_cons.1 hs
    exact (RC hs'.2 (fun x hx => by
      rcases hs'.1 x hx with h | ⟨h, _⟩
      · exact .inr h
      · exact .inl h.symm)).1

abbrev FF (rs : List (List aF)) : Prop := rs.Pairwise fun a b => fQ a b < 0

def qF (r : List aF) : List (List aF) → List (List aF)
  | [] => [r]
  | x :: xs => if fQ x r < 0 then x :: qF r xs else if x = r then x :: xs else r :: x :: xs

def rowsOf (l : List aC) : List (List aF) := l.foldl (fun rs e => qF e.Row rs) []

theorem DW {r x : List aF} : ∀ {rs : List (List aF)}, x ∈ qF r rs ↔ x = r ∨ x ∈ rs
  | [] => by simp [qF]
  | y :: ys => by
    unfold qF
    split
    · simp only [List.mem_cons, DW (rs := ys)]
      constructor
      · rintro (h | h | h)
        · exact .inr (.inl h)
        · exact .inl h
        · exact .inr (.inr h)
      · rintro (h | h | h)
        · exact .inr (.inl h)
        · exact .inl h
        · exact .inr (.inr h)
    · split
      · rename_i h; subst h; simp
      · simp

theorem RN {r : List aF} : ∀ {rs : List (List aF)}, FF rs → FF (qF r rs)
  | [], _ => by simp [qF]
  | y :: ys, hs => by
    have hs' := List.pairwise_cons.1 hs
    unfold qF
    split
    · rename_i h
      refine List.pairwise_cons.2 ⟨fun z hz => ?_, RN hs'.2⟩
      rcases DW.1 hz with rfl | hz
      · exact h
      · exact hs'.1 z hz
    · rename_i h
      split
      · exact hs
      · rename_i hne
        have hlt : fQ r y < 0 := by
          have h0 : fQ y r ≠ 0 := fun e => hne ((nA.eq _ _).1 e)
          exact (nA.anti _ _).2 (by omega)
        refine List.pairwise_cons.2 ⟨fun z hz => ?_, hs⟩
        rcases List.mem_cons.1 hz with rfl | hz
        · exact hlt
        · exact nA.trans _ _ _ hlt (hs'.1 z hz)

theorem FX : ∀ (l : List aC) (rs : List (List aF)), FF rs → FF (l.foldl (fun rs e => qF e.Row rs) rs) ∧ ∀ x, x ∈ l.foldl (fun rs e => qF e.Row rs) rs ↔ x ∈ rs ∨ ∃ e ∈ l, e.Row = x
  | [], rs, hs => ⟨hs, by simp⟩
  | e :: l, rs, hs => by
    obtain ⟨h1, h2⟩ := FX l (qF e.Row rs) (RN hs)
    refine ⟨h1, fun x => ?_⟩
    simp only [List.foldl_cons]
    rw [h2 x, DW]
    simp only [List.mem_cons, exists_eq_or_imp]
    constructor
    · rintro ((h | h) | h)
      · exact .inr (.inl h.symm)
      · exact .inl h
      · exact .inr (.inr h)
    · rintro (h | h | h)
      · exact .inl (.inr h)
      · exact .inl (.inl h.symm)
      · exact .inr h

theorem KI (l : List aC) : FF (rowsOf l) := (FX l [] List.Pairwise.nil).1

theorem yE {l : List aC} {x : List aF} : x ∈ rowsOf l ↔ ∃ e ∈ l, e.Row = x := by
  have := (FX l [] List.Pairwise.nil).2 x
  simpa [rowsOf] using this

theorem OF : ∀ {a b : List (List aF)}, FF a → FF b → (∀ x, x ∈ a ↔ x ∈ b) → a = b
  | [], [], _, _, _ => rfl
  | [], y :: ys, _, _, h => absurd ((h y).2 (by simp)) (by simp)
  | x :: xs, [], _, _, h => absurd ((h x).1 (by simp)) (by simp)
  | x :: xs, y :: ys, ha, hb, h => by
    have ha' := List.pairwise_cons.1 ha
    have hb' := List.pairwise_cons.1 hb
    have e : x = y := by
      rcases List.mem_cons.1 ((h x).1 (by simp)) with h1 | h1
      · exact h1
      · rcases List.mem_cons.1 ((h y).2 (by simp)) with h2 | h2
        · exact h2.symm
        · exact absurd (nA.trans _ _ _ (hb'.1 x h1) (ha'.1 y h2)) wK
    subst e
    rw [OF ha'.2 hb'.2 fun z => ?_]
    constructor
    · intro hz
      rcases List.mem_cons.1 ((h z).1 (by simp [hz])) with h1 | h1
      · subst h1; exact absurd (ha'.1 z hz) wK
      · exact h1
    · intro hz
      rcases List.mem_cons.1 ((h z).2 (by simp [hz])) with h1 | h1
      · subst h1; exact absurd (hb'.1 z hz) wK
      · exact h1

def AA (l : List aC) : List (List aF × List aB) := (rowsOf l).map fun r => (r, cC l r)

theorem QU (l : List aC) : uP (AA l) := by
  rw [uP, AA, List.pairwise_map]; exact KI l

theorem SS {l : List aC} {r : List aF} (h : ∀ e ∈ l, e.Row ≠ r) : cC l r = [] := by
  unfold cC
  rw [List.map_eq_nil_iff, List.filter_eq_nil_iff]
  intro e he
  simpa using h e he

theorem FG (l : List aC) (r : List aF) : look (AA l) r = cC l r := by
  rcases AI (AA l) r with ⟨h1, h2⟩ | ⟨g, hg, h1, h2⟩
  · rw [h1, SS]
    intro e he hr
    have : (r, cC l r) ∈ AA l := List.mem_map.2 ⟨r, yE.2 ⟨e, he, hr⟩, rfl⟩
    exact h2 _ this rfl
  · rw [h2]
    obtain ⟨q, _, rfl⟩ := List.mem_map.1 hg
    simp only at h1
    rw [h1]

theorem PJ {a b : List aC} (h : a.Perm b) (r : List aF) : (cC a r).Perm (cC b r) := (h.filter _).map _

theorem SC {l l' : List aC} (hp : l'.Perm l) (hs : Srt leE l') : (groups l').map (·.1) = rowsOf l := by
  refine OF ?_ (KI l) fun x => ?_
  · rw [FF, List.pairwise_map]; exact xV hs
  · rw [yE]
    constructor
    · intro h
      obtain ⟨g, hg, rfl⟩ := List.mem_map.1 h
      obtain ⟨_, e, he, h1⟩ := IY hg
      exact ⟨e, hp.mem_iff.1 he, h1.symm⟩
    · rintro ⟨e, he, rfl⟩
      have he' : e ∈ flat (groups l') := by rw [HH]; exact hp.mem_iff.2 he
      obtain ⟨g, hg, h1⟩ := List.mem_flatMap.1 he'
      obtain ⟨j, _, rfl⟩ := List.mem_map.1 h1
      exact List.mem_map.2 ⟨g, hg, rfl⟩

theorem OH {l : List aB} (ht : ∀ j ∈ l, -2 < j.At) : Up (-2) (xI l) :=
  EH (by rw [List.map_map]; simpa [Function.comp_def] using FT ht)

theorem GD {l : List aB} (ht : ∀ j ∈ l, -2 < j.At) {t : Int} (h1 : -2 < t) (h2 : t < 1125899906842624) : val (xI l) t = val l t := by
  have h0 : val l (-2) = 0 := zP fun j hj => ht j hj
  have := FZ (F := val l) (FT ht) (fun s t' _ hst hlt hn => BR hst fun j hj hc => hn j.At (HZ.2 (Or.inr ⟨j, List.mem_filter.2 ⟨hj, by simp; omega⟩, rfl⟩)) hc) t (by omega) h2
  rw [h0] at this
  unfold xI
  rw [this]; omega

theorem UY {f g : List aB} (h : f.Perm g) (hf : f.any qZ = false) : xI f = xI g := by
  have hg : ∀ j ∈ g, -2 < j.At := fun j hj => (BJ hf j (h.mem_iff.2 hj)).1
  exact RK (fun j hj => (BJ hf j hj).1) (OH hg) fun t h1 h2 => by rw [GD hg h1 h2, NX h]

theorem IP {f g : List aB} (h : f.Perm g) (p : aB → Bool) : f.any p = g.any p := by
  cases h1 : g.any p
  · rw [List.any_eq_false] at h1 ⊢
    exact fun x hx => h1 x (h.mem_iff.1 hx)
  · obtain ⟨x, hx, hp⟩ := List.any_eq_true.1 h1
    exact List.any_eq_true.2 ⟨x, h.mem_iff.2 hx, hp⟩

theorem US {f g : List aB} (h : f.Perm g) : jH f = jH g := by
  unfold jH
  rw [IP h pF, IP h qZ]
  split
  · rfl
  · split
    · rfl
    · rename_i h2
      rw [UY h (by rw [IP h qZ]; simpa using h2)]

theorem GM (l : List aB) : (jH l).1.length ≤ 1024 := by
  unfold jH
  split
  · simp
  · split
    · simp
    · exact ZT _

theorem JQ {by1 : List aB → List aB × Int} : ∀ {gs hs : List (List aF × List aB)} {out : List aC}, gs.map (fun g => (g.1, by1 g.2)) = hs.map (fun g => (g.1, by1 g.2)) → qR by1 gs out = qR by1 hs out
  | [], [], _, _ => rfl
  | [], _ :: _, _, h => by simp at h
  | _ :: _, [], _, h => by simp at h
  | g :: gs, k :: hs, out, h => by
    simp only [List.map_cons, List.cons.injEq, Prod.mk.injEq] at h
    obtain ⟨⟨h1, h2⟩, h3⟩ := h
    unfold qR
    rw [h1, h2]
    split
    · rfl
    · split
      · rfl
      · exact JQ h3

theorem SN {l l' : List aC} (hp : l'.Perm l) (hs : Srt leE l') : (groups l').map (fun g => (g.1, jH g.2)) = (AA l).map (fun g => (g.1, jH g.2)) := by
  have h1 : (groups l').map (fun g => (g.1, jH g.2)) = ((groups l').map (·.1)).map (fun r => (r, jH (cC l r))) := by
    rw [List.map_map]
    apply List.map_congr_left
    intro g hg
    have hj : g.2 = cC l' g.1 := by rw [← qW (xV hs), IQ (xV hs) hg]
    simp only [Function.comp]
    rw [hj, US (PJ hp g.1)]
  rw [h1, SC hp hs, AA, List.map_map]
  rfl

def kB (l : List aC) : List aC × Int := if l.any unE then ([], 2) else if l.any BD then ([], 13) else qR jH (AA l) []

theorem DB {l : List aC} (h : l.any unE = false) : ∀ e ∈ l, iA e.Row = true ∧ e.Net ≤ 1048576 ∧ -1048576 ≤ e.Net := by
  intro e he
  have := List.any_eq_false.1 h e he
  simp only [unE, Bool.or_eq_true, not_or, Bool.not_eq_true', decide_eq_true_eq, Bool.not_eq_false, Bool.not_eq_true] at this
  exact ⟨by simpa using this.1.1, by omega, by omega⟩

theorem ON {l : List aC} (hl : okL l) (hn : l.length ≤ 1099511627776) : sR l = some (kB l) := by
  unfold sR kB
  rw [FU (g := unE) hn (fun x _ => by simp [sK, AY, unE])]
  simp only [Option.bind_some]
  cases h1 : l.any unE
  · rw [FU (f := fun y0 => rU y0) (g := BD) hn (fun x _ => rfl)]
    simp only [cond_false, Option.bind_some, Bool.false_eq_true, if_false]
    cases h2 : l.any BD
    · simp only [cond_false, Bool.false_eq_true, if_false]
      have hc : eZ l = some l := by unfold eZ; exact aW ⟨by omega, by omega⟩
      obtain ⟨r, r1, r2, r3⟩ := aBB hn (fun e he => (DB h1 e he).1)
      rw [hc]
      simp only [Option.bind_some]
      rw [r3]
      simp only [Option.bind_some]
      have hr : okL r := ⟨by rw [r1.length_eq]; exact hl.1, fun e he => hl.2 e (r1.mem_iff.1 he)⟩
      rw [WH hr (by1 := jH) (fun g hg => ⟨by
        unfold rM
        have hgl : g.2.length ≤ 1099511627776 := by
          have h3 : g.2 = cC r g.1 := by rw [← qW (xV r2), IQ (xV r2) hg]
          rw [h3, cC, List.length_map]
          exact Nat.le_trans (List.length_filter_le _ _) (by rw [r1.length_eq]; exact hn)
        rw [norm_eq hgl]; rfl, GM _, MI hr hg⟩)]
      simp only [Option.bind_some]
      rw [JQ (SN r1 r2)]
    · simp
  · simp

theorem WB : jH [] = ([], 0) := rfl

theorem ED {l : List aC} (h : (kB l).2 = 0) : l.any unE = false ∧ l.any BD = false ∧ (∀ g ∈ AA l, (jH g.2).2 = 0) ∧ (kB l).1 = flat (GP jH (AA l)) ∧ (kB l).1.length ≤ 4096 := by
  unfold kB at h ⊢
  cases h1 : l.any unE
  · rw [h1] at h
    simp only [Bool.false_eq_true, if_false] at h ⊢
    cases h2 : l.any BD
    · rw [h2] at h
      simp only [Bool.false_eq_true, if_false] at h ⊢
      obtain ⟨a, b, c⟩ := TK (by simp) h
      exact ⟨trivial, trivial, a, by simpa using b, c⟩
    · rw [h2] at h; simp at h
  · rw [h1] at h; simp at h

theorem VK {l : List aC} (h : (kB l).2 = 0) (r : List aF) : look (groups (kB l).1) r = (jH (cC l r)).1 := by
  obtain ⟨_, _, _, h4, _⟩ := ED h
  rw [h4, WD (OT (QU l)), LV (by rw [WB]), FG]

theorem HW {f : List aB} (h : (jH f).2 = 0) : f.any pF = false ∧ f.any qZ = false ∧ lH (xI f) = true ∧ jH f = (xI f, 0) := by
  unfold jH at h ⊢
  cases h1 : f.any pF
  · rw [h1] at h
    simp only [Bool.false_eq_true, if_false] at h ⊢
    cases h2 : f.any qZ
    · rw [h2] at h
      simp only [Bool.false_eq_true, if_false] at h ⊢
      unfold told at h ⊢
      cases h3 : lH (xI f)
      · rw [h3] at h; simp at h
      · simp
    · rw [h2] at h; simp at h
  · rw [h1] at h; simp at h

theorem MF {l : List aC} (h : (kB l).2 = 0) (r : List aF) : (jH (cC l r)).2 = 0 := by
  obtain ⟨_, _, h3, _, _⟩ := ED h
  rcases AI (AA l) r with ⟨e, _⟩ | ⟨g, hg, _, e⟩
  · rw [FG] at e; rw [e]; rfl
  · rw [FG] at e; rw [e]; exact h3 g hg

theorem MH {l : List aC} (h : (kB l).2 = 0) : qG (kB l).1 = true := by
  obtain ⟨h1, _, h3, h4, h5⟩ := ED h
  rw [h4] at h5 ⊢
  refine XL (OT (QU l)) (fun g hg => ?_) h5
  obtain ⟨q, hq, rfl⟩ := List.mem_map.1 hg
  have h6 := HW (h3 q hq)
  obtain ⟨r, hr, rfl⟩ := List.mem_map.1 hq
  obtain ⟨e, he, rfl⟩ := yE.1 hr
  exact ⟨(DB h1 e he).1, by rw [h6.2.2.2]; exact h6.2.2.1⟩

theorem VS {l : List aC} (h : (kB l).2 ≠ 0) : (kB l).1 = [] := by
  unfold kB at h ⊢
  split
  · rfl
  · rename_i h1
    rw [if_neg h1] at h
    split
    · rfl
    · rename_i h2
      rw [if_neg h2] at h
      exact PI h

end Go.Abs
namespace Go.Abs
open Go
theorem XF {ls : List (List aC)} (hl : ls.length ≤ 1000) (hb : ∀ l ∈ ls, l.length ≤ 1000000) : lp (fun s : Int × Int => cD ls ls (ls.length : Nat) s.1 s.2) (0, 0) = some (((ls.map List.length).sum : Nat) : Int) := by
  have := nR (l := ls) (body := fun s : Int × Int => cD ls ls (ls.length : Nat) s.1 s.2) (fun (n : Nat) i => ((n : Int), i)) (fun n r => ((n + (r.map List.length).sum : Nat) : Int)) (fun n r => n + 1000000 * r.length ≤ 1000000000 ∧ ∀ x ∈ r, x.length ≤ 1000000) 0 ?_ ?_ ⟨by omega, hb⟩
  · simpa using this
  · rintro i a r n ha ⟨h1, h2⟩
    left
    obtain ⟨d1, d2, d3, d4⟩ := idx ha (by omega)
    simp only [List.length_cons] at h1
    have h3 := h2 a (by simp)
    have hw : IntKind.i64.wrap ((n : Int) + ((a.length : Nat) : Int)) = ((n + a.length : Nat) : Int) := by rw [jJ (by omega) (by omega)]; omega
    refine ⟨n + a.length, ?_, ⟨by omega, fun x hx => h2 x (by simp [hx])⟩, by simp; omega⟩
    show cD _ _ _ _ _ = _
    have hz : decide (((n + a.length : Nat) : Int) < 0) = false := by simp; omega
    simp only [cD, d1, cond_true, aW d2, d3, d4, hw, hz, cond_false]
  · rintro n _
    show cD _ _ _ _ _ = _
    simp only [cD, dY, cond_false]
    simp

theorem aAj {n : Nat} (h : n ≤ 1000000000) : fH (n : Int) = some [] := by
  unfold fH
  have h1 : decide ((n : Int) < 0) = false := by simp
  have w0 : IntKind.i64.wrap ((0 : Int) - ((0 : Nat) : Int)) = 0 := by rw [jJ] <;> omega
  have w1 : IntKind.i64.wrap ((n : Int) - 0) = (n : Int) := by rw [jJ (by omega) (by omega)]; omega
  simp only [h1, cond_false, w0, w1]
  by_cases h2 : (0 : Int) < (n : Int)
  · rw [decide_eq_true h2, cond_true, aW ⟨by omega, by omega⟩, aW ⟨by omega, by simp only [Int.toNat_natCast]; omega, by omega⟩, aW ⟨by omega, by omega⟩]
    rfl
  · rw [decide_eq_false h2, cond_false]; rfl

theorem YF {ls : List (List aC)} (hl : ls.length ≤ 1000) (hb : ∀ l ∈ ls, l.length ≤ 1000000) : lp (fun s : List aC × Int => cE ls (ls.length : Nat) s.1 s.2) ([], 0) = some ls.flatten := by
  have := nR (l := ls) (body := fun s : List aC × Int => cE ls (ls.length : Nat) s.1 s.2) (fun o i => (o, i)) (fun o r => o ++ r.flatten) (fun o r => o.length + 1000000 * r.length ≤ 1000000000 ∧ ∀ x ∈ r, x.length ≤ 1000000) [] ?_ ?_ ⟨by simp; omega, hb⟩
  · simpa using this
  · rintro i a r o ha ⟨h1, h2⟩
    left
    obtain ⟨d1, d2, d3, d4⟩ := idx ha (by omega)
    simp only [List.length_cons] at h1
    have h3 := h2 a (by simp)
    refine ⟨o ++ a, ?_, ⟨by simp; omega, fun x hx => h2 x (by simp [hx])⟩, by simp⟩
    show cE _ _ _ _ = _
    simp only [cE, d1, cond_true, aW d2, d3, d4]
    exact aW ⟨by omega, by omega⟩
  · rintro o _
    show cE _ _ _ _ = _
    simp only [cE, dY, cond_false]
    simp

theorem XC {a b : List aC} (ha : a.length ≤ 1000000) (hb : b.length ≤ 1000000) : eO [a, b] = some (a ++ b) := by
  have hx : ∀ l ∈ [a, b], l.length ≤ 1000000 := by simp [ha, hb]
  unfold eO gJ
  rw [XF (by simp) hx]
  simp only [Option.bind_some, eD]
  rw [aAj (by simp; omega)]
  simp only [Option.bind_some, gV]
  rw [YF (by simp) hx]
  simp [eC]

def ZC (a b : List aC) : List aC × Int := if qG a && qG b then kB (a ++ b) else ([], 2)

theorem UD {a b : List aC} (ha : okL a) (hb : okL b) (h : a.length + b.length ≤ 3518437208783) : okL (a ++ b) :=
  ⟨by simpa using h, fun e he => by
    rcases List.mem_append.1 he with h | h
    · exact ha.2 e h
    · exact hb.2 e h⟩

theorem aAq {a b : List aC} (ha : okL a) (hb : okL b) : yB a b = some (ZC a b) := by
  unfold yB ZC
  rw [GY ha]
  cases h1 : qG a
  · simp [cN]
  · simp only [Option.bind_some, Bool.not_true, Bool.not_false, cN, cond_true, GY hb, Bool.false_or]
    cases h2 : qG b
    · simp
    · have la := (yK h1).1
      have lb := (yK h2).1
      simp only [Bool.not_true, cond_false, Bool.and_self, if_true]
      rw [XC (by omega) (by omega)]
      simp only [Option.bind_some]
      rw [ON (UD ha hb (by omega)) (by simp; omega)]
      rfl

def AJ (s : dS) : Bool := (decide (0 ≤ s.From) && decide (s.From ≤ 1125899906842624)) && (decide (0 ≤ s.To) && decide (s.To ≤ 1125899906842624)) && decide (s.From < s.To)

def ofE (r : List aF) (s : dS) : List aC × Int := if !iA r then ([], 2) else if !AJ s then ([], 14) else kB [⟨r, s.From, 1⟩, ⟨r, s.To, -1⟩]

theorem VF (s : dS) : yG s = some (AJ s) := by
  unfold yG uZ AJ
  simp only [Option.bind_some]
  cases h : (decide (0 ≤ s.From) && decide (s.From ≤ 1125899906842624)) <;> simp [cN]

theorem OR {r : List aF} (hr : r.length ≤ 4398046510976) (s : dS) : tX r s = some (ofE r s) := by
  unfold tX ofE
  rw [AY]
  cases h1 : iA r
  · simp
  · simp only [Option.bind_some, Bool.not_true, cond_false, VF, Bool.false_eq_true, if_false]
    cases h2 : AJ s
    · simp
    · simp only [Bool.not_true, cond_false, Bool.false_eq_true, if_false]
      rw [ON ⟨by simp, by simp [hr]⟩ (by simp)]
      rfl

def vL : aF := ⟨1, 1, ByteArray.empty⟩

theorem KJ {l : List aC} (h : l.length ≤ 4096) (hr : ∀ e ∈ l, e.Row.length ≤ 8) : okL l := ⟨by omega, fun e he => by have := hr e he; omega⟩

theorem aBt : ofE [vL] ⟨2, 5⟩ = ([⟨[vL], 2, 1⟩, ⟨[vL], 5, -1⟩], 0) := by decide +kernel

theorem aBw : ofE [vL] ⟨5, 9⟩ = ([⟨[vL], 5, 1⟩, ⟨[vL], 9, -1⟩], 0) := by decide +kernel

theorem aBq : ZC [⟨[vL], 2, 1⟩, ⟨[vL], 5, -1⟩] [⟨[vL], 5, 1⟩, ⟨[vL], 9, -1⟩] = ([⟨[vL], 2, 1⟩, ⟨[vL], 9, -1⟩], 0) := by decide +kernel

theorem aBx : BN [⟨[vL], 2, 1⟩, ⟨[vL], 9, -1⟩] = true := by decide +kernel

theorem ZA : tK = some true := by
  unfold tK
  have h1 := (OR (r := [vL]) (by simp) ⟨2, 5⟩).trans (congrArg some aBt)
  have h2 := (OR (r := [vL]) (by simp) ⟨5, 9⟩).trans (congrArg some aBw)
  unfold vL at h1 h2
  rw [h1, h2]
  simp only [Option.bind_some]
  have k1 : okL [⟨[vL], 2, 1⟩, ⟨[vL], 5, -1⟩] := KJ (by simp) (by simp)
  have k2 : okL [⟨[vL], 5, 1⟩, ⟨[vL], 9, -1⟩] := KJ (by simp) (by simp)
  have h3 := (aAq k1 k2).trans (congrArg some aBq)
  have h4 := (MY (l := [⟨[vL], 2, 1⟩, ⟨[vL], 9, -1⟩]) (KJ (by simp) (by simp))).trans (congrArg some aBx)
  have h5 : oF [] = some true := (GY (l := []) (KJ (by simp) (by simp))).trans (by decide +kernel)
  unfold vL at h3 h4
  rw [h3]
  simp only [Option.bind_some]
  rw [h4, h5]
  simp [cN, aW]

end Go.Abs
namespace Go.Abs
open Go
theorem KW : okL [] := ⟨by simp, by simp⟩

theorem ZH {gs : List (List aF × List aB)} (h : ∀ g ∈ gs, g.1.length ≤ 4398046510976) (hl : (flat gs).length ≤ 4096) : okL (flat gs) := by
  refine ⟨by omega, fun e he => ?_⟩
  obtain ⟨g, hg, h1⟩ := List.mem_flatMap.1 he
  obtain ⟨j, _, rfl⟩ := List.mem_map.1 h1
  exact h g hg

theorem WG {l : List aC} (hl : okL l) : okL (kB l).1 := by
  by_cases h : (kB l).2 = 0
  · obtain ⟨_, _, _, h4, h5⟩ := ED h
    rw [h4] at h5 ⊢
    refine ZH (fun g hg => ?_) h5
    obtain ⟨q, hq, rfl⟩ := List.mem_map.1 hg
    obtain ⟨r, hr, rfl⟩ := List.mem_map.1 hq
    obtain ⟨e, he, rfl⟩ := yE.1 hr
    exact hl.2 e he
  · rw [VS h]; exact KW

end Go.Abs
namespace Go.Abs
open Go
theorem HJ {σ : Type} {y : σ → List aF → List aB → Option (σ × Bool)} (c : List aC) : ∀ (gs : List (List aF × List aB)) (s s' : σ), itG y gs s = some s' →
    ∃ x, itG (fun st t10 t11 => rnd (fun (s : σ) => jT y c s t10 t11) st) gs (.inl s) = some x ∧ Sum.elim id id x = s'
  | [], s, s', h => by simp only [itG, Option.some.injEq] at h; exact ⟨_, rfl, h⟩
  | g :: gs, s, s', h => by
    simp only [itG] at h
    obtain ⟨z, hz, h⟩ := aX h
    have hl : jT y c s g.1 g.2 = some (if z.2 then .inl z.1 else .inr z.1) := by
      unfold jT
      rw [hz]
      obtain ⟨z1, z2⟩ := z
      cases z2 <;> rfl
    cases h2 : z.2
    · rw [h2] at h hl
      simp only [Bool.false_eq_true, if_false, Option.some.injEq] at h hl
      refine ⟨.inr z.1, ?_, h⟩
      simp [itG, rnd, hl]
    · rw [h2] at h hl
      simp only [if_true] at h hl
      obtain ⟨x, h3, h4⟩ := HJ c gs z.1 s' h
      refine ⟨x, ?_, h4⟩
      simp only [itG, rnd, hl, Option.bind_some, Sum.isLeft_inl, if_true]
      exact h3

theorem UO {σ : Type} {y : σ → List aF → List aB → Option (σ × Bool)} {l : List aC} (hl : okL l) {s s' : σ} (h : itG y (if qG l then groups l else []) s = some s') : oE y l s = some s' := by
  unfold oE
  rw [GY hl]
  cases hm : qG l
  · rw [hm] at h
    simp only [Bool.false_eq_true, if_false, itG] at h
    simpa using h
  · rw [hm] at h
    simp only [if_true] at h
    simp only [Option.bind_some, Bool.not_true, cond_false, oM, qD]
    obtain ⟨x, h1, h2⟩ := HJ l (groups l) s s' h
    rw [LL hl h1]
    cases x <;> simpa using h2

theorem XK {out : List aC} {r : List aF} {f : List aB} (hr : r.length ≤ 4398046510976) (hl : out.length + f.length ≤ 1099511627776) : uY out r f = some (out ++ eV r f) := by
  unfold uY xO
  rw [nR (l := f) (body := fun s : List aC × Int => nP r f s.1 s.2) (fun o i => (o, i)) (fun o t => o ++ eV r t) (fun o t => o.length + t.length ≤ 1099511627776) out ?_ ?_ hl]
  · rfl
  · intro i a t o ha hi
    left
    obtain ⟨d1, d2, d3, d4⟩ := idx ha (by have := (List.getElem?_eq_some_iff.1 ha).1; omega)
    simp only [List.length_cons] at hi
    refine ⟨o ++ [⟨r, a.At, a.Net⟩], ?_, by simp; omega, by simp [eV]⟩
    show nP _ _ _ _ = _
    simp only [nP, d1, cond_true, aW d2, d3, d4]
    rw [aW ⟨by omega, by omega⟩]
    exact aW (by simp only [List.length_cons, List.length_nil]; omega)
  · intro o _
    show nP _ _ _ _ = _
    simp only [nP, dY, cond_false]
    simp [eV]

theorem LW (r : List aF) (f : List aB) : (eV r f).length = f.length := by simp [eV]

theorem OL {r : List aF} (hr : r.length ≤ 4398046510976) (c : List aC) : ∀ (gs : List (List aF × List aB)), (∀ g ∈ gs, g.1.length ≤ 4398046510976) →
    ∃ x, itG (fun st t12 t13 => rnd (fun (s : (List aB)) => nW r c s t12 t13) st) gs (.inl []) = some x ∧ Sum.elim (fun _ => []) id x = look gs r
  | [], _ => ⟨_, rfl, rfl⟩
  | g :: gs, hg => by
    have h1 : nW r c [] g.1 g.2 = some (if g.1 = r then .inr g.2 else .inl []) := by
      unfold nW
      rw [EF g.1 r (by have := hg g (by simp); omega)]
      by_cases h : g.1 = r <;> simp [h]
    rw [uC]
    by_cases h : g.1 = r
    · rw [if_pos h] at h1 ⊢
      exact ⟨.inr g.2, by simp [itG, rnd, h1], rfl⟩
    · rw [if_neg h] at h1 ⊢
      obtain ⟨x, h2, h3⟩ := OL hr c gs (fun q hq => hg q (by simp [hq]))
      refine ⟨x, ?_, h3⟩
      simp only [itG, rnd, h1, Option.bind_some, Sum.isLeft_inl, if_true]
      exact h2

def JR (l : List aC) (r : List aF) : List aB := if iA r && qG l then look (groups l) r else []

theorem WN {l : List aC} (hl : okL l) {r : List aF} (hr : r.length ≤ 4398046510976) : tN l r = some (JR l r) := by
  unfold tN JR
  rw [AY]
  cases h1 : iA r
  · simp
  · simp only [Option.bind_some, Bool.not_true, cond_false, vX, vY, Bool.true_and]
    obtain ⟨x, h2, h3⟩ := OL hr l (if qG l then groups l else []) (by
      intro g hg
      split at hg
      · exact MI hl hg
      · simp at hg)
    rw [UO hl h2]
    have h4 : look (if qG l then groups l else []) r = if qG l then look (groups l) r else [] := by split <;> rfl
    rw [h4] at h3
    cases x
    · simp only [Sum.elim_inl] at h3
      simp [← h3]
    · simp only [Sum.elim_inr, id_eq] at h3
      simp [← h3]

theorem JB {l : List aC} (hm : qG l = true) (r : List aF) : lH (cC l r) = true := by
  rw [← qW (yK hm).2.2]; exact WT hm r

end Go.Abs
namespace Go.Abs
open Go
theorem RT {l : List aC} (hl : okL l) (hn : l.length ≤ 1099511627776) {r : List aF} : sG l r = some (cC l r) := by
  unfold sG uF
  rw [nR (l := l) (body := fun s : List aB × Int => lU l r s.1 s.2) (fun o i => (o, i)) (fun o t => o ++ cC t r) (fun o t => o.length + t.length ≤ 1099511627776) [] ?_ ?_ (by simpa using hn)]
  · rfl
  · intro i a t o ha hi
    left
    obtain ⟨d1, d2, d3, d4⟩ := idx ha (by omega)
    simp only [List.length_cons] at hi
    have hr := hl.2 a (List.mem_of_getElem? ha)
    have hb : lU l r o (i : Int) = some (.inl (if a.Row = r then o ++ [jE a] else o, ((i + 1 : Nat) : Int))) := by
      simp only [lU, qS, d1, cond_true, aW d2, d3, d4, AE a.Row r (by omega), Option.bind_some]
      by_cases e : a.Row = r
      · simp only [e, decide_true, cond_true, if_true]
        rw [aW (by simp only [List.length_cons, List.length_nil]; omega)]; rfl
      · simp [e]
    refine ⟨_, hb, ?_, ?_⟩
    · split
      · simp; omega
      · omega
    · by_cases e : a.Row = r <;> simp [cC, e]
  · intro o _
    show lU _ _ _ _ = _
    simp only [lU, dY, cond_false]
    simp [cC]

theorem HX (r : List aF) : ∀ rs : List (List aF), (qF r rs).length ≤ rs.length + 1
  | [] => by simp [qF]
  | x :: xs => by
    unfold qF
    split
    · simp only [List.length_cons]; have := HX r xs; omega
    · split <;> simp

def uU (r : List aF) : List (List aF) → Nat
  | [] => 0
  | x :: xs => if fQ x r < 0 then uU r xs + 1 else 0

theorem TM (r : List aF) : ∀ rs, uU r rs ≤ rs.length
  | [] => by simp [uU]
  | x :: xs => by unfold uU; split <;> simp [TM r xs]

theorem PK (r : List aF) : ∀ rs, qF r rs = if rs[uU r rs]? = some r then rs else rs.take (uU r rs) ++ [r] ++ rs.drop (uU r rs)
  | [] => by simp [qF]
  | x :: xs => by
    unfold qF uU
    by_cases h : fQ x r < 0
    · rw [if_pos h, if_pos h, PK r xs]
      simp only [List.getElem?_cons_succ, List.take_succ_cons, List.drop_succ_cons]
      split <;> simp
    · rw [if_neg h, if_neg h]
      by_cases e : x = r <;> simp [e]

theorem JY {l : List aC} {rs : List (List aF)} {e : aC} {i : Nat} (hi : l[i]? = some e) (hl : okL l) (he : iA e.Row = true) (hr : ∀ x ∈ rs, iA x = true) (hn : rs.length ≤ 1099511627776) : ∀ (t : List (List aF)) (k : Nat), rs.drop k = t → k ≤ rs.length →
    lp (fun s : List (List aF) × Int => lK l (i : Int) s.1 s.2) (rs, (k : Int)) = some (rs, ((k + uU e.Row t : Nat) : Int))
  | [], k, hd, hk => by
    have : k = rs.length := by
      have := congrArg List.length hd
      simp only [List.length_drop, List.length_nil] at this; omega
    subst this
    refine cK ?_
    show lK _ _ _ _ = _
    simp only [lK, dY, cN, cond_false, Option.bind_some, Bool.false_and]
    rw [aW (fun h => by cases h), aW (fun h => by cases h)]
    simp [uU]
  | x :: t, k, hd, hk => by
    obtain ⟨h1, h2⟩ := drop_cons hd
    have hlt := (List.getElem?_eq_some_iff.1 h1).1
    obtain ⟨d1, d2, d3, d4⟩ := idx h1 (by omega)
    obtain ⟨_, c2, c3, _⟩ := idx hi (by have := hl.1; omega)
    have hx := hr x (List.mem_of_getElem? h1)
    have hb : (fun s : List (List aF) × Int => lK l (i : Int) s.1 s.2) (rs, (k : Int)) = some (if fQ x e.Row < 0 then .inl (rs, ((k + 1 : Nat) : Int)) else .inr (rs, (k : Int))) := by
      show lK _ _ _ _ = _
      simp only [lK, d1, cN, cond_true, d3, c3, d4, Bool.true_and]
      rw [aW (fun _ => d2), aW (fun _ => c2), PW x e.Row (by have := (wY hx).1; omega) (by have := (wY he).1; omega), hx, he]
      simp only [Bool.and_self, if_true, Option.bind_some]
      by_cases h : fQ x e.Row < 0 <;> simp [h]
    unfold uU
    by_cases h : fQ x e.Row < 0
    · rw [if_pos h] at hb
      rw [eS hb, JY hi hl he hr hn t (k + 1) h2 (by omega), if_pos h]
      congr 3; omega
    · rw [if_neg h] at hb
      rw [cK hb, if_neg h]; rfl

theorem UC {l : List aC} (hl : okL l) (hm : ∀ e ∈ l, iA e.Row = true) (hn : l.length ≤ 1099511627776) : tY l = some (rowsOf l) := by
  unfold tY vU
  rw [nR (l := l) (body := fun s : List (List aF) × Int => mL l s.1 s.2) (fun o i => (o, i)) (fun o t => t.foldl (fun rs e => qF e.Row rs) o) (fun o t => o.length + t.length ≤ 1099511627776 ∧ ∀ x ∈ o, iA x = true) [] ?_ ?_ ⟨by simpa using hn, by simp⟩]
  · rfl
  · rintro i e t rs hi ⟨h1, h2⟩
    left
    obtain ⟨d1, d2, d3, d4⟩ := idx hi (by omega)
    have he := hm e (List.mem_of_getElem? hi)
    simp only [List.length_cons] at h1
    refine ⟨qF e.Row rs, ?_, ⟨by have := HX e.Row rs; omega, fun x hx => by
      rcases DW.1 hx with rfl | h
      · exact he
      · exact h2 x h⟩, rfl⟩
    show mL _ _ _ = _
    have hin := JY hi hl he h2 (by omega) rs 0 rfl (Nat.zero_le _)
    simp only [Int.natCast_zero, Nat.zero_add] at hin
    have hple := TM e.Row rs
    simp only [mL, d1, cond_true, vZ, hin, Option.bind_some, sH, rZ, d3, d4]
    rw [PK]
    by_cases hp : uU e.Row rs < rs.length
    · have hx : rs[uU e.Row rs]? = some rs[uU e.Row rs] := List.getElem?_eq_getElem hp
      obtain ⟨f1, f2, f3, _⟩ := idx hx (by omega)
      have hrow := h2 _ (List.mem_of_getElem? hx)
      simp only [f1, f3, cN, cond_true, Bool.true_and]
      rw [aW (fun _ => f2), aW (fun _ => d2), AE _ _ (by have := (wY hrow).1; omega)]
      by_cases hq : rs[uU e.Row rs] = e.Row
      · simp [hq, hx]
      · simp only [hq, decide_false, cond_false, Option.bind_some, hx, Option.some.injEq, if_false, Int.toNat_natCast]
        rw [aW ⟨by omega, by omega⟩, aW ⟨by simp; omega, by simp; omega⟩, aW d2, aW ⟨by simp; omega, by simp; omega⟩, aW ⟨by omega, by omega⟩, aW ⟨by simp; omega, by simp; omega⟩]
    · have hpe : uU e.Row rs = rs.length := by omega
      rw [hpe]
      simp only [dY, cN, cond_false, Option.bind_some, Bool.false_and]
      rw [aW (fun h => by cases h), aW (fun h => by cases h)]
      have hnone : rs[rs.length]? = none := by simp
      simp only [hnone, reduceCtorEq, if_false, Int.toNat_natCast]
      rw [aW ⟨by omega, by omega⟩, aW ⟨by simp; omega, by simp; omega⟩, aW d2, aW ⟨by simp; omega, by simp; omega⟩, aW ⟨by omega, by omega⟩, aW ⟨by simp; omega, by simp; omega⟩]
  · rintro rs ⟨_, _⟩
    show mL _ _ _ = _
    simp only [mL, dY, cond_false]
    rfl

theorem EV : ∀ (l : List aC) (rs : List (List aF)), (l.foldl (fun rs e => qF e.Row rs) rs).length ≤ rs.length + l.length
  | [], rs => by simp
  | e :: l, rs => by
    have := EV l (qF e.Row rs)
    have := HX e.Row rs
    simp only [List.foldl_cons, List.length_cons]; omega

theorem KK (l : List aC) : (rowsOf l).length ≤ l.length := by
  have := EV l []
  simpa [rowsOf] using this

theorem SA (l : List aC) (r : List aF) : (cC l r).length ≤ l.length := by
  unfold cC; rw [List.length_map]; exact List.length_filter_le _ _

end Go.Abs
namespace Go.Abs
open Go
def sX (by1 : List aB → List aB × Int) : List (List aF × List aB) → List aC → List aC × Int
  | [], out => (out, 0)
  | g :: gs, out => if (by1 g.2).2 ≠ 0 then ([], (by1 g.2).2) else sX by1 gs (out ++ eV g.1 (by1 g.2).1)

def DX (x : List aC × Int) : List aC × Int := if x.2 = 0 ∧ 4096 < x.1.length then ([], 7) else x

theorem PC {by1 : List aB → List aB × Int} : ∀ {gs : List (List aF × List aB)} {out : List aC}, (∀ g ∈ gs, (by1 g.2).2 = 0 ∨ (by1 g.2).2 = 7) → 4096 < out.length → DX (sX by1 gs out) = ([], 7)
  | [], out, _, h => by simp [sX, DX, h]
  | g :: gs, out, he, h => by
    unfold sX
    rcases he g (by simp) with e | e
    · rw [if_neg (by simp [e])]
      exact PC (fun q hq => he q (by simp [hq])) (by rw [List.length_append]; omega)
    · rw [if_pos (by simp [e]), e]; simp [DX]

theorem TS {by1 : List aB → List aB × Int} : ∀ {gs : List (List aF × List aB)} {out : List aC}, (∀ g ∈ gs, (by1 g.2).2 = 0 ∨ (by1 g.2).2 = 7) → out.length ≤ 4096 → DX (sX by1 gs out) = qR by1 gs out
  | [], out, _, h => by
    have : ¬ 4096 < out.length := by omega
    simp [sX, DX, qR, this]
  | g :: gs, out, he, h => by
    unfold sX qR
    rcases he g (by simp) with e | e
    · rw [if_neg (by simp [e]), if_neg (by simp [e])]
      by_cases hl : 4096 < (out ++ eV g.1 (by1 g.2).1).length
      · rw [if_pos hl]; exact PC (fun q hq => he q (by simp [hq])) hl
      · rw [if_neg hl]; exact TS (fun q hq => he q (by simp [hq])) (by omega)
    · rw [if_pos (by simp [e]), if_pos (by simp [e]), e]; simp [DX]

theorem aAz {by1 : List aB → List aB × Int} {J : List aF → List aB} {rs : List (List aF)} {body : List aC × Int → Option ((List aC × Int) ⊕ (List aC ⊕ (List aC × Int)))} (h1 : ∀ f, (by1 f).1.length ≤ 1024) (hn : rs.length ≤ 1000000)
    (hb : ∀ (i : Nat) r out, rs[i]? = some r → out.length ≤ 1024000000 → body (out, (i : Int)) = some (if (by1 (J r)).2 ≠ 0 then .inr (.inr ([], (by1 (J r)).2)) else .inl (out ++ eV r (by1 (J r)).1, ((i + 1 : Nat) : Int))))
    (he : ∀ out, body (out, (rs.length : Nat)) = some (.inr (.inl out))) : ∃ x, lp body ([], 0) = some x ∧ Sum.elim (fun o => (o, (0 : Int))) id x = sX by1 (rs.map fun r => (r, J r)) [] ∧ (∀ o, x = .inl o → o.length ≤ 1024000000) ∧ ∀ o, x = .inr o → o.2 ≠ 0 := by
  refine ⟨_, nR (l := rs) (body := body) (fun o i => (o, i)) (fun o t => if (sX by1 (t.map fun r => (r, J r)) o).2 = 0 then .inl (sX by1 (t.map fun r => (r, J r)) o).1 else .inr (sX by1 (t.map fun r => (r, J r)) o)) (fun o t => o.length + 1024 * t.length ≤ 1024000000) [] ?_ ?_ (by simp; omega), ?_, ?_, ?_⟩
  · intro i r t o hi hl
    simp only [List.length_cons] at hl
    have := hb i r o hi (by omega)
    have h2 := h1 (J r)
    by_cases e : (by1 (J r)).2 ≠ 0
    · right
      rw [if_pos e] at this
      rw [this]
      simp only [List.map_cons, sX, if_pos e, if_neg e]
    · left
      rw [if_neg e] at this
      refine ⟨_, this, by rw [List.length_append, LW]; omega, ?_⟩
      simp only [List.map_cons, sX, if_neg e]
  · intro o _
    rw [he o]
    simp [sX]
  · cases h : (sX by1 (rs.map fun r => (r, J r)) []) with
    | mk a b =>
      by_cases e : b = 0
      · simp [e]
      · simp [e]
  · intro o ho
    have key : ∀ (gs : List (List aF)) (out : List aC), out.length + 1024 * gs.length ≤ 1024000000 → (sX by1 (gs.map fun r => (r, J r)) out).1.length ≤ 1024000000 := by
      intro gs
      induction gs with
      | nil => intro out h; simpa [sX] using h
      | cons r gs ih =>
        intro out h
        simp only [List.map_cons, sX]
        split
        · simp
        · refine ih _ ?_
          have := h1 (J r)
          simp only [List.length_cons] at h
          rw [List.length_append, LW]; omega
    split at ho
    · simp only [Sum.inl.injEq] at ho
      rw [← ho]; exact key rs [] (by simp; omega)
    · cases ho
  · intro o ho
    split at ho
    · cases ho
    · rename_i h
      simp only [Sum.inr.injEq] at ho
      rw [← ho]; exact h

theorem aBG {j : List aC → Option (List aC × Int)} {y : List aC × Int} {x : List aC ⊕ (List aC × Int)} (hj : ∀ o : List aC, o.length ≤ 1024000000 → j o = some (if 4096 < o.length then ([], 7) else (o, 0))) (hx : Sum.elim (fun o => (o, (0 : Int))) id x = y) (hl : ∀ o, x = .inl o → o.length ≤ 1024000000) (hy : ∀ o, x = .inr o → o.2 ≠ 0) : Sum.elim (fun o => j o) (fun rr : List aC × Int => some (rr.1, rr.2)) x = some (DX y) := by
  cases x with
  | inl o =>
    simp only [Sum.elim_inl] at hx ⊢
    rw [hj o (hl o rfl), ← hx]
    unfold DX
    by_cases h : 4096 < o.length <;> simp [h]
  | inr o =>
    simp only [Sum.elim_inr, id] at hx ⊢
    subst hx
    have := hy o rfl
    simp [DX, this]

theorem XV {f : List aB} (h1 : f.any pF = false) (h2 : f.any qZ = false) : (jH f).2 = 0 ∨ (jH f).2 = 7 := by
  unfold jH
  rw [if_neg (by simp [h1]), if_neg (by simp [h2])]
  unfold told
  split <;> simp

theorem EY {l : List aC} (h1 : l.any unE = false) (h2 : l.any BD = false) (r : List aF) : (cC l r).any pF = false ∧ (cC l r).any qZ = false := by
  constructor
  · refine List.any_eq_false.2 fun j hj => ?_
    obtain ⟨e, he, rfl⟩ := List.mem_map.1 hj
    have := DB h1 e (List.mem_filter.1 he).1
    have h3 : (jE e).Net = e.Net := rfl
    simp only [pF, zD, h3, Bool.not_eq_true', Bool.and_eq_false_iff, decide_eq_false_iff_not, not_or, Decidable.not_not, Bool.not_eq_false, Bool.and_eq_true, decide_eq_true_eq]
    omega
  · refine List.any_eq_false.2 fun j hj => ?_
    obtain ⟨e, he, rfl⟩ := List.mem_map.1 hj
    have := List.any_eq_false.1 h2 e (List.mem_filter.1 he).1
    have h3 : (jE e).At = e.At := rfl
    simp only [BD, Bool.or_eq_true, decide_eq_true_eq, not_or] at this
    simp only [qZ, h3, Bool.or_eq_true, decide_eq_true_eq]
    omega

end Go.Abs
namespace Go.Abs
open Go
theorem YK {l : List aC} (h1 : l.any unE = false) (h2 : l.any BD = false) : ∀ g ∈ AA l, (jH g.2).2 = 0 ∨ (jH g.2).2 = 7 := by
  intro g hg
  obtain ⟨r, _, rfl⟩ := List.mem_map.1 hg
  exact XV (EY h1 h2 r).1 (EY h1 h2 r).2

theorem SI {l : List aC} (hl : okL l) (hn : l.length ≤ 1000000) : tZ l = some (kB l) := by
  unfold tZ wF kB
  rw [KP (l := l) (fun i => i) unE (.inr ([], 2)) (.inl ()) ?_ ?_]
  · cases h1 : l.any unE
    · simp only [Bool.false_eq_true, if_false, Option.bind_some, Sum.elim_inl, rV, wG]
      rw [KP (l := l) (fun i => i) BD (.inr ([], 13)) (.inl ()) ?_ ?_]
      · cases h2 : l.any BD
        · have hr := UC hl (fun e he => (DB h1 e he).1) (by omega)
          simp only [Bool.false_eq_true, if_false, Option.bind_some, Sum.elim_inl, rX, hr, vQ]
          have hR := aAz (by1 := jH) (J := cC l) (rs := rowsOf l) (body := fun s => mQ l (rowsOf l) s.1 s.2) GM (by have := KK l; omega) ?_ ?_
          · obtain ⟨x, e1, e2, e3, e4⟩ := hR
            rw [e1]
            simp only [Option.bind_some]
            have hj : ∀ o : List aC, o.length ≤ 1024000000 → pW o = some (if 4096 < o.length then ([], 7) else (o, 0)) := by
              intro o _
              unfold pW
              by_cases h : 4096 < o.length
              · have h' : (4096 : Int) < ((o.length : Nat) : Int) := by omega
                simp [h, h']
              · have h' : ¬ (4096 : Int) < ((o.length : Nat) : Int) := by omega
                simp [h, h']
            exact (aBG hj e2 e3 e4).trans (congrArg some (TS (YK h1 h2) (by simp)))
          · intro i r out hi ho
            have := KK l
            have hlt := (List.getElem?_eq_some_iff.1 hi).1
            obtain ⟨d1, d2, d3, d4⟩ := idx hi (by omega)
            have hrow : iA r = true := by
              obtain ⟨e, he, rfl⟩ := yE.1 (List.mem_of_getElem? hi)
              exact (DB h1 e he).1
            have h8 := (wY hrow).1
            have hjl := SA l r
            have hnl := GM (cC l r)
            show mQ _ _ _ _ = _
            simp only [mQ, d1, cond_true, aW d2, d3, d4, RT hl (show l.length ≤ 1099511627776 by omega), Option.bind_some, VR (show (cC l r).length ≤ 1099511627776 by omega)]
            by_cases e : (jH (cC l r)).2 = 0
            · rw [XK (by omega) (by omega)]
              simp [e]
            · simp [e]
          · intro out
            show mQ _ _ _ _ = _
            simp only [mQ, dY, cond_false]
        · simp
      · intro i e hi
        obtain ⟨d1, d2, d3, d4⟩ := idx hi (by omega)
        show nY _ _ = _
        simp only [nY, d1, cond_true, aW d2, d3, d4]
        rw [aW (fun _ => d2)]
        unfold BD
        cases h : (decide (e.At < -1) || decide (1125899906842624 < e.At)) <;> simp
      · show nY _ _ = _
        simp only [nY, dY, cond_false]
    · simp
  · intro i e hi
    obtain ⟨d1, d2, d3, d4⟩ := idx hi (by omega)
    have hr := hl.2 e (List.mem_of_getElem? hi)
    show nT _ _ = _
    simp only [nT, d1, cond_true, aW d2, d3, d4, AT e.Row (by omega), Option.bind_some]
    rw [aW (fun _ => d2), aW (fun _ => d2)]
    unfold unE
    cases h : (((!iA e.Row) || decide (1048576 < e.Net)) || decide (e.Net < -1048576)) <;> simp
  · show nT _ _ = _
    simp only [nT, dY, cond_false]

end Go.Abs
namespace Go.Abs
open Go
theorem SZ {c : Int} : ∀ {l : List Int} {m : Int}, c ≤ l.foldl mn m ↔ c ≤ m ∧ ∀ x ∈ l, c ≤ x
  | [], m => by simp
  | a :: l, m => by
    rw [List.foldl_cons, SZ]
    unfold mn
    constructor
    · rintro ⟨h1, h2⟩
      have h3 : c ≤ m ∧ c ≤ a := by split at h1 <;> omega
      refine ⟨h3.1, fun x hx => ?_⟩
      rcases List.mem_cons.1 hx with rfl | hx
      · exact h3.2
      · exact h2 x hx
    · rintro ⟨h1, h2⟩
      have := h2 a (by simp)
      exact ⟨by split <;> omega, fun x hx => h2 x (by simp [hx])⟩

theorem MQ {t : Int} : ∀ {f : List aB} {l v : Int}, xY l f → v + val f t = v ∨ v + val f t ∈ parts v f
  | [], l, v, _ => .inl (by simp [val])
  | j :: r, l, v, h => by
    unfold parts
    rw [dB]
    by_cases e : j.At ≤ t
    · rw [if_pos e]
      right
      rcases MQ (t := t) (v := v + j.Net) h.2 with h1 | h1
      · rw [show v + (j.Net + val r t) = v + j.Net by omega]; simp
      · rw [show v + (j.Net + val r t) = v + j.Net + val r t by omega]; exact List.mem_cons_of_mem _ h1
    · left
      rw [if_neg e, h.2.yL (by omega)]; omega

theorem MP {f : List aB} (hf : lH f = true) : 0 ≤ CX f ↔ ∀ t, 0 ≤ val f t := by
  have hr := (AZ.1 hf).2
  unfold CX
  rw [SZ]
  constructor
  · rintro ⟨_, h2⟩ t
    rcases MQ (t := t) (v := 0) hr with h | h
    · omega
    · rw [parts_eq hr] at h
      obtain ⟨j, hj, h⟩ := List.mem_map.1 h
      have := h2 _ (List.mem_map.2 ⟨j, hj, rfl⟩)
      omega
  · intro h
    refine ⟨h _, fun x hx => ?_⟩
    obtain ⟨j, _, rfl⟩ := List.mem_map.1 hx
    exact h _

theorem JX {l : List aC} : BN l = true ↔ qG l = true ∧ ∀ r t, 0 ≤ val (cC l r) t := by
  constructor
  · intro h
    unfold BN at h
    rw [Bool.and_eq_true, wU] at h
    obtain ⟨h1, h2, h3, _⟩ := h
    have hm : qG l = true := by
      unfold qG
      rw [Bool.and_eq_true]
      exact ⟨h1, wU.2 ⟨fun g hg => ⟨(h2 g hg).1, by have := (h2 g hg).2; unfold LK at this; rw [Bool.and_eq_true] at this; exact this.1⟩, h3, fun q hq => by cases hq⟩⟩
    refine ⟨hm, fun r => ?_⟩
    rw [← qW h3]
    rcases AI (groups l) r with ⟨e, _⟩ | ⟨g, hg, _, e⟩
    · rw [e]; intro t; simp [val]
    · rw [e]
      have := (h2 g hg).2
      unfold LK at this
      rw [Bool.and_eq_true, decide_eq_true_eq] at this
      exact (MP this.1).1 this.2
  · rintro ⟨hm, h⟩
    obtain ⟨h1, h2, h3⟩ := yK hm
    unfold BN
    rw [Bool.and_eq_true]
    refine ⟨by simpa using h1, wU.2 ⟨fun g hg => ⟨(h2 g hg).1, ?_⟩, h3, fun q hq => by cases hq⟩⟩
    unfold LK
    rw [Bool.and_eq_true, decide_eq_true_eq]
    refine ⟨(h2 g hg).2, (MP (h2 g hg).2).2 ?_⟩
    have : g.2 = cC l g.1 := by rw [← qW h3, IQ h3 hg]
    rw [this]; exact h g.1

theorem YU {r : List aF} (hr : r.length ≤ 4398046510976) (s : dS) : yI r s = some (ofE r s) := by
  unfold yI ofE
  rw [AT r (by omega)]
  cases h1 : iA r
  · simp
  · have hs : vD s = some (AJ s) := by
      unfold vD tH AJ
      simp only [Option.bind_some]
      cases h : (decide (0 ≤ s.From) && decide (s.From ≤ 1125899906842624)) <;> simp [cN]
    simp only [Option.bind_some, Bool.not_true, cond_false, hs, Bool.false_eq_true, if_false]
    cases h2 : AJ s
    · simp
    · simp only [Bool.not_true, cond_false, Bool.false_eq_true, if_false]
      rw [SI ⟨by simp, by simp [hr]⟩ (by simp)]
      rfl

theorem OY {f g : List aC} (hl : okL f) : vG f g = some (decide (f = g)) := by
  unfold vG cS
  by_cases he : f.length = g.length
  · rw [JN he, cond_false]
    unfold cO
    have := KC (f := f) (g := g) (body := fun s => bT (fun y0 y1 => pT y0 y1) g f (f.length : Nat) s) he ?_ ?_ f.length 0 rfl (Nat.zero_le _)
    · simp only [Int.natCast_zero, List.drop_zero] at this
      rw [this]
      by_cases h : f = g <;> simp [h, cF]
    · intro i x y hx hy
      have hll := hl.1
      obtain ⟨d1, d2, d3, d4⟩ := idx hx (by omega)
      obtain ⟨_, e2, e3, _⟩ := idx hy (by omega)
      have hr := hl.2 x (List.mem_of_getElem? hx)
      show bT _ _ _ _ _ = _
      simp only [bT, d1, cond_true, aW d2, aW e2, d3, e3, d4, pT, cN]
      rw [EF x.Row y.Row (by omega)]
      obtain ⟨x1, x2, x3⟩ := x
      obtain ⟨y1, y2, y3⟩ := y
      by_cases h1 : x2 = y2 <;> by_cases h2 : x3 = y3 <;> by_cases h3 : x1 = y1 <;> simp [h1, h2, h3]
    · simp only [bT, dY, cond_false]
  · rw [JM he, cond_true]
    have : f ≠ g := fun h => he (by rw [h])
    simp [this]

theorem VY {f : List aB} (hu : Up (-2) f) (h : ∀ t, -2 < t → t < 1125899906842624 → 0 ≤ val f t) : ∀ t, 0 ≤ val f t := by
  intro t
  by_cases h1 : -2 < t
  · by_cases h2 : t < 1125899906842624
    · exact h t h1 h2
    · have := BR (s := 1125899906842623) (t := t) (by omega) (f := f) (fun j hj => by have := (hu.above j hj); omega)
      rw [← this]; exact h _ (by omega) (by omega)
  · rw [hu.yL (by omega)]; omega

theorem HO {l : List aC} (h : (kB l).2 = 0) (r : List aF) : cC (kB l).1 r = xI (cC l r) := by
  rw [← qW (yK (MH h)).2.2, VK h, (HW (MF h r)).2.2.2]

theorem BC {l : List aC} (h : (kB l).2 = 0) (r : List aF) : ∀ j ∈ cC l r, -2 < j.At :=
  fun j hj => (BJ (HW (MF h r)).2.1 j hj).1

theorem XE {l : List aC} (h : (kB l).2 = 0) (r : List aF) {t : Int} (h1 : -2 < t) (h2 : t < 1125899906842624) : val (cC (kB l).1 r) t = val (cC l r) t := by
  rw [HO h, GD (BC h r) h1 h2]

theorem SB {l : List aC} (h : (kB l).2 = 0) (hv : ∀ r t, -2 < t → t < 1125899906842624 → 0 ≤ val (cC l r) t) : BN (kB l).1 = true := by
  refine JX.2 ⟨MH h, fun r => ?_⟩
  rw [HO h]
  refine VY (OH (BC h r)) fun t h1 h2 => ?_
  rw [GD (BC h r) h1 h2]; exact hv r t h1 h2

theorem aBf {r : List aF} {s : dS} (h : (ofE r s).2 = 0) : iA r = true ∧ 0 ≤ s.From ∧ s.From < s.To ∧ s.To ≤ 1125899906842624 ∧ BN (ofE r s).1 = true ∧ val (cC (ofE r s).1 r) s.From = 1 := by
  unfold ofE at h ⊢
  cases h1 : iA r
  · rw [h1] at h; simp at h
  · rw [h1] at h
    simp only [Bool.not_true, Bool.false_eq_true, if_false] at h ⊢
    cases h2 : AJ s
    · rw [h2] at h; simp at h
    · rw [h2] at h
      simp only [Bool.not_true, Bool.false_eq_true, if_false] at h ⊢
      have hs := h2
      unfold AJ at hs
      simp only [Bool.and_eq_true, decide_eq_true_eq] at hs
      have hj : ∀ q, cC [⟨r, s.From, 1⟩, ⟨r, s.To, -1⟩] q = if r = q then [⟨s.From, 1⟩, ⟨s.To, -1⟩] else [] := by
        intro q
        by_cases e : r = q <;> simp [cC, e, jE]
      refine ⟨trivial, by omega, by omega, by omega, SB h fun q t _ _ => ?_, ?_⟩
      · rw [hj]
        split
        · simp only [val, List.map_cons, List.map_nil, List.sum_cons, List.sum_nil]
          split <;> split <;> omega
        · simp [val]
      · rw [XE h r (by omega) (by omega), hj, if_pos rfl]
        simp only [val, List.map_cons, List.map_nil, List.sum_cons, List.sum_nil]
        rw [if_pos (by omega), if_neg (by omega)]; omega

end Go.Abs
namespace Go.Abs
open Go
theorem SO (l0 : (List aF)) (m0 : ∀ a ∈ l0, xX a) (y0 : List.length l0 * 32 ≤ 140737488351232) (l1 : dS) (m1 : yY l1) : uM l0 l1 = some true := by
  unfold uM
  have ko : okL (ofE l0 l1).1 := by
    unfold ofE
    split
    · exact KW
    · split
      · exact KW
      · exact WG ⟨by simp, by simp; omega⟩
  rw [OR (by omega), YU (by omega), ZA]
  simp only [Option.bind_some, decide_true, Bool.and_self, cN, cond_true, SW ko, OY ko, MY ko]
  by_cases e : (ofE l0 l1).2 = 0
  · obtain ⟨h1, h2, h3, h4, h5, h6⟩ := aBf e
    have hm := (JX.1 h5).1
    simp only [e, decide_true, Bool.not_true, Bool.not_false, Bool.and_self, cond_true, h5, Option.bind_some]
    rw [WN ko (by omega)]
    have hj : JR (ofE l0 l1).1 l0 = cC (ofE l0 l1).1 l0 := by
      unfold JR
      rw [h1, hm, qW (yK hm).2.2]; rfl
    have ha : yA (cC (ofE l0 l1).1 l0) l1.From = some 1 := by
      unfold yA
      rw [MS, JB hm l0]
      simp only [Option.bind_some, Bool.not_true, cond_false, PD (JB hm l0), h6]
    simp only [Option.bind_some, hj, ha]
    rfl
  · simp [e]

end Go.Abs
