/- Plain laws that the plain functions' proofs share: loops over lists, whole numbers of 64 bits. -/
import Derived.Test.YtgeajlnkbfeidaaAbs20
namespace Go.Abs
open Go

theorem wrap_in {n : Int} (h1 : -9223372036854775808 ≤ n) (h2 : n ≤ 9223372036854775807) : IntKind.i64.wrap n = n := by
  simp only [IntKind.wrap, IntKind.bits, IntKind.signed]
  simp
  split <;> omega

theorem wrap_of {n : Int} (h : in64 n) : IntKind.i64.wrap n = n := wrap_in h.1 h.2

/-- A list gone through, with an end in its midst. -/
def foldE {α st R : Type} (step : st → α → Option (st ⊕ R)) (fin : st → R) : st → List α → Option R
  | s, [] => some (fin s)
  | s, a :: r => match step s a with
    | some (.inl s') => foldE step fin s' r
    | some (.inr x) => some x
    | none => none

theorem foldE_nil {α st R : Type} {step : st → α → Option (st ⊕ R)} {fin : st → R} {s : st} : foldE step fin s [] = some (fin s) := rfl
theorem foldE_next {α st R : Type} {step : st → α → Option (st ⊕ R)} {fin : st → R} {s s' : st} {a : α} {r : List α} (h : step s a = some (.inl s')) : foldE step fin s (a :: r) = foldE step fin s' r := by
  simp only [foldE, h]
theorem foldE_last {α st R : Type} {step : st → α → Option (st ⊕ R)} {fin : st → R} {s : st} {x : R} {a : α} {r : List α} (h : step s a = some (.inr x)) : foldE step fin s (a :: r) = some x := by
  simp only [foldE, h]

/-- A loop over a list, by its index. -/
theorem lp_list {α S st R : Type} {body : S → Option (S ⊕ R)} {l : List α} (mk : st → Int → S) (step : st → α → Option (st ⊕ R)) (fin : st → R)
    (hn : ∀ (i : Nat) a s, l[i]? = some a → (∀ s', step s a = some (.inl s') → body (mk s i) = some (.inl (mk s' ((i + 1 : Nat) : Int)))) ∧ (∀ x, step s a = some (.inr x) → body (mk s i) = some (.inr x)))
    (he : ∀ s, body (mk s (l.length : Nat)) = some (.inr (fin s))) : ∀ (m k : Nat) (s : st) (r : R), l.length - k = m → k ≤ l.length → foldE step fin s (l.drop k) = some r → lp body (mk s k) = some r
  | 0, k, s, r, hm, hk, h => by
    have : k = l.length := by omega
    subst this
    rw [List.drop_length] at h
    simp only [foldE, Option.some.injEq] at h
    subst h
    exact lp_last (he s)
  | m + 1, k, s, r, hm, hk, h => by
    have hlt : k < l.length := by omega
    have hd : l.drop k = l[k] :: l.drop (k + 1) := List.drop_eq_getElem_cons hlt
    rw [hd] at h
    simp only [foldE] at h
    obtain ⟨h1, h2⟩ := hn k l[k] s (List.getElem?_eq_getElem hlt)
    split at h
    · rename_i s' hs
      rw [lp_next (h1 s' hs)]
      exact lp_list mk step fin hn he m (k + 1) s' r (by omega) (by omega) h
    · rename_i x hs
      simp at h; subst h
      exact lp_last (h2 x hs)
    · cases h

theorem lp_list0 {α S st R : Type} {body : S → Option (S ⊕ R)} {l : List α} (mk : st → Int → S) (step : st → α → Option (st ⊕ R)) (fin : st → R)
    (hn : ∀ (i : Nat) a s, l[i]? = some a → (∀ s', step s a = some (.inl s') → body (mk s i) = some (.inl (mk s' ((i + 1 : Nat) : Int)))) ∧ (∀ x, step s a = some (.inr x) → body (mk s i) = some (.inr x)))
    (he : ∀ s, body (mk s (l.length : Nat)) = some (.inr (fin s))) {s : st} {r : R} (h : foldE step fin s l = some r) : lp body (mk s 0) = some r :=
  lp_list mk step fin hn he _ 0 s r rfl (Nat.zero_le _) (by simpa using h)

/-- The same, with a claim that is kept. -/
theorem lp_listI {α S st R : Type} {body : S → Option (S ⊕ R)} {l : List α} (mk : st → Int → S) (step : st → α → Option (st ⊕ R)) (fin : st → R) (Inv : Nat → st → Prop)
    (hn : ∀ (i : Nat) a s, Inv i s → l[i]? = some a → (∀ s', step s a = some (.inl s') → Inv (i + 1) s' ∧ body (mk s i) = some (.inl (mk s' ((i + 1 : Nat) : Int)))) ∧ (∀ x, step s a = some (.inr x) → body (mk s i) = some (.inr x)))
    (he : ∀ s, Inv l.length s → body (mk s (l.length : Nat)) = some (.inr (fin s))) : ∀ (m k : Nat) (s : st) (r : R), l.length - k = m → k ≤ l.length → Inv k s → foldE step fin s (l.drop k) = some r → lp body (mk s k) = some r
  | 0, k, s, r, hm, hk, hi, h => by
    have : k = l.length := by omega
    subst this
    rw [List.drop_length] at h
    simp only [foldE, Option.some.injEq] at h
    subst h
    exact lp_last (he s hi)
  | m + 1, k, s, r, hm, hk, hi, h => by
    have hlt : k < l.length := by omega
    have hd : l.drop k = l[k] :: l.drop (k + 1) := List.drop_eq_getElem_cons hlt
    rw [hd] at h
    simp only [foldE] at h
    obtain ⟨h1, h2⟩ := hn k l[k] s hi (List.getElem?_eq_getElem hlt)
    split at h
    · rename_i s' hs
      obtain ⟨hi', hb⟩ := h1 s' hs
      rw [lp_next hb]
      exact lp_listI mk step fin Inv hn he m (k + 1) s' r (by omega) (by omega) hi' h
    · rename_i x hs
      simp at h; subst h
      exact lp_last (h2 x hs)
    · cases h

theorem lp_listI0 {α S st R : Type} {body : S → Option (S ⊕ R)} {l : List α} (mk : st → Int → S) (step : st → α → Option (st ⊕ R)) (fin : st → R) (Inv : Nat → st → Prop)
    (hn : ∀ (i : Nat) a s, Inv i s → l[i]? = some a → (∀ s', step s a = some (.inl s') → Inv (i + 1) s' ∧ body (mk s i) = some (.inl (mk s' ((i + 1 : Nat) : Int)))) ∧ (∀ x, step s a = some (.inr x) → body (mk s i) = some (.inr x)))
    (he : ∀ s, Inv l.length s → body (mk s (l.length : Nat)) = some (.inr (fin s))) {s : st} {r : R} (hi : Inv 0 s) (h : foldE step fin s l = some r) : lp body (mk s 0) = some r :=
  lp_listI mk step fin Inv hn he _ 0 s r rfl (Nat.zero_le _) hi (by simpa using h)

theorem idx {α : Type} [Inhabited α] {l : List α} {i : Nat} {a : α} (h : l[i]? = some a) (hl : l.length < 4611686018427387904) :
    decide ((i : Int) < ((l.length : Nat) : Int)) = true ∧ (0 ≤ (i : Int) ∧ (i : Int) < ((l.length : Nat) : Int)) ∧ l.getD (Int.toNat (i : Int)) default = a ∧ IntKind.i64.wrap ((i : Int) + 1) = ((i + 1 : Nat) : Int) := by
  have hlt : i < l.length := (List.getElem?_eq_some_iff.1 h).1
  refine ⟨by simpa using hlt, ⟨by omega, by omega⟩, ?_, ?_⟩
  · rw [Int.toNat_natCast, List.getD_eq_getElem?_getD, h]; rfl
  · rw [wrap_in (by omega) (by omega)]; omega

theorem idx_end {n : Nat} : decide (((n : Nat) : Int) < ((n : Nat) : Int)) = false := by simp

theorem len_pos {α : Type} {j : α} {r : List α} : decide ((0 : Int) < ((List.length (j :: r) : Nat) : Int)) = true := by simp
theorem len_nil {α : Type} : decide ((0 : Int) < ((List.length ([] : List α) : Nat) : Int)) = false := rfl
theorem at_0 {α : Type} {j : α} {r : List α} : (0 : Int) ≤ 0 ∧ (0 : Int) < ((List.length (j :: r) : Nat) : Int) := ⟨by omega, by simp⟩
theorem at_1 {α : Type} {j : α} {r : List α} : (0 : Int) ≤ 1 ∧ (1 : Int) ≤ ((List.length (j :: r) : Nat) : Int) := ⟨by omega, by simp; omega⟩
theorem getD_0 {α : Type} [Inhabited α] {j : α} {r : List α} : List.getD (j :: r) (Int.toNat (0 : Int)) default = j := rfl
theorem drop_1 {α : Type} {j : α} {r : List α} : List.drop (Int.toNat (1 : Int)) (j :: r) = r := rfl

end Go.Abs
