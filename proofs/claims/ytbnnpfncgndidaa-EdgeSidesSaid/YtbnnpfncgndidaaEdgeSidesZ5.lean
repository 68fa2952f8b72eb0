/- What the law EdgeSides stands on: the framework, the given functions as plain functions, their walks, and the plain laws; part 5. -/
import Derived.Test.YtbnnpfncgndidaaEdgeSidesZ4
set_option linter.unusedSimpArgs false
set_option linter.unusedVariables false
namespace Go.Abs
open Go
noncomputable def g_symMerge_j4 {α : Type} [Inhabited α] (cmp4 : α → α → Option Int) (rec : (List α) → Int → Int → Int → Option (List α)) (data0 : List α) (a1 : Int) (m2 : Int) (b3 : Int) (mid18 : Int) (n19 : Int) (start20 : Int) : Option (List α) :=
  cond ((decide (start20 < m2)) && (decide (m2 < (IntKind.i64.wrap (n19 - start20)))))
  ((gs_rotate data0 start20 m2 (IntKind.i64.wrap (n19 - start20)) cmp4).bind fun x10 =>
  g_symMerge_j5 cmp4 rec x10 a1 b3 mid18 start20 (IntKind.i64.wrap (n19 - start20)))
  (g_symMerge_j5 cmp4 rec data0 a1 b3 mid18 start20 (IntKind.i64.wrap (n19 - start20)))

noncomputable def g_symMerge_l7 {α : Type} [Inhabited α] (cmp4 : α → α → Option Int) (rec : (List α) → Int → Int → Int → Option (List α)) (a1 : Int) (m2 : Int) (b3 : Int) (mid18 : Int) (n19 : Int) (p22 : Int) (data0 : List α) (start20 : Int) (r21 : Int) : Option ((List α × Int × Int) ⊕ ((List α × Int))) :=
  cond (decide (start20 < r21))
  (asrt (0 ≤ (1 : Int)) <|
  asrt (0 ≤ (IntKind.i64.wrap (p22 - (IntKind.i64.wrap (Int.fdiv (IntKind.u64.wrap (IntKind.i64.wrap (start20 + r21))) (2 ^ (min (Int.toNat (1 : Int)) 64)))))) ∧ (IntKind.i64.wrap (p22 - (IntKind.i64.wrap (Int.fdiv (IntKind.u64.wrap (IntKind.i64.wrap (start20 + r21))) (2 ^ (min (Int.toNat (1 : Int)) 64)))))) < ((List.length data0 : Nat) : Int)) <|
  asrt (0 ≤ (IntKind.i64.wrap (Int.fdiv (IntKind.u64.wrap (IntKind.i64.wrap (start20 + r21))) (2 ^ (min (Int.toNat (1 : Int)) 64)))) ∧ (IntKind.i64.wrap (Int.fdiv (IntKind.u64.wrap (IntKind.i64.wrap (start20 + r21))) (2 ^ (min (Int.toNat (1 : Int)) 64)))) < ((List.length data0 : Nat) : Int)) <|
  (cmp4 (List.getD data0 (Int.toNat (IntKind.i64.wrap (p22 - (IntKind.i64.wrap (Int.fdiv (IntKind.u64.wrap (IntKind.i64.wrap (start20 + r21))) (2 ^ (min (Int.toNat (1 : Int)) 64))))))) default) (List.getD data0 (Int.toNat (IntKind.i64.wrap (Int.fdiv (IntKind.u64.wrap (IntKind.i64.wrap (start20 + r21))) (2 ^ (min (Int.toNat (1 : Int)) 64))))) default)).bind fun x17 =>
  cond (!(decide (x17 < (0 : Int))))
  (some (.inl (data0, IntKind.i64.wrap ((IntKind.i64.wrap (Int.fdiv (IntKind.u64.wrap (IntKind.i64.wrap (start20 + r21))) (2 ^ (min (Int.toNat (1 : Int)) 64)))) + (1 : Int)), r21)))
  (some (.inl (data0, start20, IntKind.i64.wrap (Int.fdiv (IntKind.u64.wrap (IntKind.i64.wrap (start20 + r21))) (2 ^ (min (Int.toNat (1 : Int)) 64)))))))
  (some (.inr (data0, start20)))

noncomputable def g_symMerge_h7 {α : Type} [Inhabited α] (cmp4 : α → α → Option Int) (rec : (List α) → Int → Int → Int → Option (List α)) (data0 : List α) (a1 : Int) (m2 : Int) (b3 : Int) (mid18 : Int) (n19 : Int) (start20 : Int) (r21 : Int) (p22 : Int) : Option (List α) :=
  (lp (fun s => g_symMerge_l7 cmp4 rec a1 m2 b3 mid18 n19 p22 s.1 s.2.1 s.2.2) (data0, start20, r21)).bind (fun rr => g_symMerge_j4 cmp4 rec rr.1 a1 m2 b3 mid18 n19 rr.2)

noncomputable def g_symMerge_j3 {α : Type} [Inhabited α] (cmp4 : α → α → Option Int) (rec : (List α) → Int → Int → Int → Option (List α)) (data0 : List α) (a1 : Int) (m2 : Int) (b3 : Int) (mid18 : Int) (n19 : Int) (start20 : Int) (r21 : Int) : Option (List α) :=
  g_symMerge_h7 cmp4 rec data0 a1 m2 b3 mid18 n19 start20 r21 (IntKind.i64.wrap (n19 - (1 : Int)))

noncomputable def g_symMerge_j2 {α : Type} [Inhabited α] (cmp4 : α → α → Option Int) (rec : (List α) → Int → Int → Int → Option (List α)) (data0 : List α) (a1 : Int) (m2 : Int) (b3 : Int) : Option (List α) :=
  asrt (0 ≤ (1 : Int)) <|
  cond (decide ((IntKind.i64.wrap (Int.fdiv (IntKind.u64.wrap (IntKind.i64.wrap (a1 + b3))) (2 ^ (min (Int.toNat (1 : Int)) 64)))) < m2))
  (g_symMerge_j3 cmp4 rec data0 a1 m2 b3 (IntKind.i64.wrap (Int.fdiv (IntKind.u64.wrap (IntKind.i64.wrap (a1 + b3))) (2 ^ (min (Int.toNat (1 : Int)) 64)))) (IntKind.i64.wrap ((IntKind.i64.wrap (Int.fdiv (IntKind.u64.wrap (IntKind.i64.wrap (a1 + b3))) (2 ^ (min (Int.toNat (1 : Int)) 64)))) + m2)) (IntKind.i64.wrap ((IntKind.i64.wrap ((IntKind.i64.wrap (Int.fdiv (IntKind.u64.wrap (IntKind.i64.wrap (a1 + b3))) (2 ^ (min (Int.toNat (1 : Int)) 64)))) + m2)) - b3)) (IntKind.i64.wrap (Int.fdiv (IntKind.u64.wrap (IntKind.i64.wrap (a1 + b3))) (2 ^ (min (Int.toNat (1 : Int)) 64)))))
  (g_symMerge_j3 cmp4 rec data0 a1 m2 b3 (IntKind.i64.wrap (Int.fdiv (IntKind.u64.wrap (IntKind.i64.wrap (a1 + b3))) (2 ^ (min (Int.toNat (1 : Int)) 64)))) (IntKind.i64.wrap ((IntKind.i64.wrap (Int.fdiv (IntKind.u64.wrap (IntKind.i64.wrap (a1 + b3))) (2 ^ (min (Int.toNat (1 : Int)) 64)))) + m2)) a1 m2)

noncomputable def g_symMerge_j9 {α : Type} [Inhabited α] (cmp4 : α → α → Option Int) (rec : (List α) → Int → Int → Int → Option (List α)) (data0 : List α) : Option (List α) :=
  some data0

noncomputable def g_symMerge_l10 {α : Type} [Inhabited α] (cmp4 : α → α → Option Int) (rec : (List α) → Int → Int → Int → Option (List α)) (i14 : Int) (data0 : List α) (k17 : Int) : Option ((List α × Int) ⊕ ((List α))) :=
  cond (decide (i14 < k17))
  (asrt (0 ≤ (IntKind.i64.wrap (k17 - (1 : Int))) ∧ (IntKind.i64.wrap (k17 - (1 : Int))) < ((List.length data0 : Nat) : Int)) <|
  asrt (0 ≤ k17 ∧ k17 < ((List.length data0 : Nat) : Int)) <|
  asrt (0 ≤ k17 ∧ k17 < ((List.length data0 : Nat) : Int)) <|
  asrt (0 ≤ (IntKind.i64.wrap (k17 - (1 : Int))) ∧ (IntKind.i64.wrap (k17 - (1 : Int))) < ((List.length data0 : Nat) : Int)) <|
  some (.inl (List.set (List.set data0 (Int.toNat k17) (List.getD data0 (Int.toNat (IntKind.i64.wrap (k17 - (1 : Int)))) default)) (Int.toNat (IntKind.i64.wrap (k17 - (1 : Int)))) (List.getD data0 (Int.toNat k17) default), IntKind.i64.wrap (k17 - (1 : Int)))))
  (some (.inr data0))

noncomputable def g_symMerge_h10 {α : Type} [Inhabited α] (cmp4 : α → α → Option Int) (rec : (List α) → Int → Int → Int → Option (List α)) (data0 : List α) (i14 : Int) (k17 : Int) : Option (List α) :=
  (lp (fun s => g_symMerge_l10 cmp4 rec i14 s.1 s.2) (data0, k17)).bind (fun rr => g_symMerge_j9 cmp4 rec rr)

noncomputable def g_symMerge_j8 {α : Type} [Inhabited α] (cmp4 : α → α → Option Int) (rec : (List α) → Int → Int → Int → Option (List α)) (data0 : List α) (m2 : Int) (i14 : Int) : Option (List α) :=
  g_symMerge_h10 cmp4 rec data0 i14 m2

noncomputable def g_symMerge_l11 {α : Type} [Inhabited α] (cmp4 : α → α → Option Int) (rec : (List α) → Int → Int → Int → Option (List α)) (m2 : Int) (data0 : List α) (i14 : Int) (j15 : Int) : Option ((List α × Int × Int) ⊕ ((List α × Int))) :=
  cond (decide (i14 < j15))
  (asrt (0 ≤ (1 : Int)) <|
  asrt (0 ≤ m2 ∧ m2 < ((List.length data0 : Nat) : Int)) <|
  asrt (0 ≤ (IntKind.i64.wrap (Int.fdiv (IntKind.u64.wrap (IntKind.i64.wrap (i14 + j15))) (2 ^ (min (Int.toNat (1 : Int)) 64)))) ∧ (IntKind.i64.wrap (Int.fdiv (IntKind.u64.wrap (IntKind.i64.wrap (i14 + j15))) (2 ^ (min (Int.toNat (1 : Int)) 64)))) < ((List.length data0 : Nat) : Int)) <|
  (cmp4 (List.getD data0 (Int.toNat m2) default) (List.getD data0 (Int.toNat (IntKind.i64.wrap (Int.fdiv (IntKind.u64.wrap (IntKind.i64.wrap (i14 + j15))) (2 ^ (min (Int.toNat (1 : Int)) 64))))) default)).bind fun x31 =>
  cond (!(decide (x31 < (0 : Int))))
  (some (.inl (data0, IntKind.i64.wrap ((IntKind.i64.wrap (Int.fdiv (IntKind.u64.wrap (IntKind.i64.wrap (i14 + j15))) (2 ^ (min (Int.toNat (1 : Int)) 64)))) + (1 : Int)), j15)))
  (some (.inl (data0, i14, IntKind.i64.wrap (Int.fdiv (IntKind.u64.wrap (IntKind.i64.wrap (i14 + j15))) (2 ^ (min (Int.toNat (1 : Int)) 64)))))))
  (some (.inr (data0, i14)))

noncomputable def g_symMerge_h11 {α : Type} [Inhabited α] (cmp4 : α → α → Option Int) (rec : (List α) → Int → Int → Int → Option (List α)) (data0 : List α) (m2 : Int) (i14 : Int) (j15 : Int) : Option (List α) :=
  (lp (fun s => g_symMerge_l11 cmp4 rec m2 s.1 s.2.1 s.2.2) (data0, i14, j15)).bind (fun rr => g_symMerge_j8 cmp4 rec rr.1 m2 rr.2)

noncomputable def g_symMerge_j1 {α : Type} [Inhabited α] (cmp4 : α → α → Option Int) (rec : (List α) → Int → Int → Int → Option (List α)) (data0 : List α) (a1 : Int) (m2 : Int) (b3 : Int) : Option (List α) :=
  cond (decide ((IntKind.i64.wrap (b3 - m2)) = (1 : Int)))
  (g_symMerge_h11 cmp4 rec data0 m2 a1 m2)
  (g_symMerge_j2 cmp4 rec data0 a1 m2 b3)

noncomputable def g_symMerge_j13 {α : Type} [Inhabited α] (cmp4 : α → α → Option Int) (rec : (List α) → Int → Int → Int → Option (List α)) (data0 : List α) : Option (List α) :=
  some data0

noncomputable def g_symMerge_l14 {α : Type} [Inhabited α] (cmp4 : α → α → Option Int) (rec : (List α) → Int → Int → Int → Option (List α)) (i10 : Int) (data0 : List α) (k13 : Int) : Option ((List α × Int) ⊕ ((List α))) :=
  cond (decide (k13 < (IntKind.i64.wrap (i10 - (1 : Int)))))
  (asrt (0 ≤ (IntKind.i64.wrap (k13 + (1 : Int))) ∧ (IntKind.i64.wrap (k13 + (1 : Int))) < ((List.length data0 : Nat) : Int)) <|
  asrt (0 ≤ k13 ∧ k13 < ((List.length data0 : Nat) : Int)) <|
  asrt (0 ≤ k13 ∧ k13 < ((List.length data0 : Nat) : Int)) <|
  asrt (0 ≤ (IntKind.i64.wrap (k13 + (1 : Int))) ∧ (IntKind.i64.wrap (k13 + (1 : Int))) < ((List.length data0 : Nat) : Int)) <|
  some (.inl (List.set (List.set data0 (Int.toNat k13) (List.getD data0 (Int.toNat (IntKind.i64.wrap (k13 + (1 : Int)))) default)) (Int.toNat (IntKind.i64.wrap (k13 + (1 : Int)))) (List.getD data0 (Int.toNat k13) default), IntKind.i64.wrap (k13 + (1 : Int)))))
  (some (.inr data0))

noncomputable def g_symMerge_h14 {α : Type} [Inhabited α] (cmp4 : α → α → Option Int) (rec : (List α) → Int → Int → Int → Option (List α)) (data0 : List α) (i10 : Int) (k13 : Int) : Option (List α) :=
  (lp (fun s => g_symMerge_l14 cmp4 rec i10 s.1 s.2) (data0, k13)).bind (fun rr => g_symMerge_j13 cmp4 rec rr)

noncomputable def g_symMerge_j12 {α : Type} [Inhabited α] (cmp4 : α → α → Option Int) (rec : (List α) → Int → Int → Int → Option (List α)) (data0 : List α) (a1 : Int) (i10 : Int) : Option (List α) :=
  g_symMerge_h14 cmp4 rec data0 i10 a1

noncomputable def g_symMerge_l15 {α : Type} [Inhabited α] (cmp4 : α → α → Option Int) (rec : (List α) → Int → Int → Int → Option (List α)) (a1 : Int) (data0 : List α) (i10 : Int) (j11 : Int) : Option ((List α × Int × Int) ⊕ ((List α × Int))) :=
  cond (decide (i10 < j11))
  (asrt (0 ≤ (1 : Int)) <|
  asrt (0 ≤ (IntKind.i64.wrap (Int.fdiv (IntKind.u64.wrap (IntKind.i64.wrap (i10 + j11))) (2 ^ (min (Int.toNat (1 : Int)) 64)))) ∧ (IntKind.i64.wrap (Int.fdiv (IntKind.u64.wrap (IntKind.i64.wrap (i10 + j11))) (2 ^ (min (Int.toNat (1 : Int)) 64)))) < ((List.length data0 : Nat) : Int)) <|
  asrt (0 ≤ a1 ∧ a1 < ((List.length data0 : Nat) : Int)) <|
  (cmp4 (List.getD data0 (Int.toNat (IntKind.i64.wrap (Int.fdiv (IntKind.u64.wrap (IntKind.i64.wrap (i10 + j11))) (2 ^ (min (Int.toNat (1 : Int)) 64))))) default) (List.getD data0 (Int.toNat a1) default)).bind fun x45 =>
  cond (decide (x45 < (0 : Int)))
  (some (.inl (data0, IntKind.i64.wrap ((IntKind.i64.wrap (Int.fdiv (IntKind.u64.wrap (IntKind.i64.wrap (i10 + j11))) (2 ^ (min (Int.toNat (1 : Int)) 64)))) + (1 : Int)), j11)))
  (some (.inl (data0, i10, IntKind.i64.wrap (Int.fdiv (IntKind.u64.wrap (IntKind.i64.wrap (i10 + j11))) (2 ^ (min (Int.toNat (1 : Int)) 64)))))))
  (some (.inr (data0, i10)))

noncomputable def g_symMerge_h15 {α : Type} [Inhabited α] (cmp4 : α → α → Option Int) (rec : (List α) → Int → Int → Int → Option (List α)) (data0 : List α) (a1 : Int) (i10 : Int) (j11 : Int) : Option (List α) :=
  (lp (fun s => g_symMerge_l15 cmp4 rec a1 s.1 s.2.1 s.2.2) (data0, i10, j11)).bind (fun rr => g_symMerge_j12 cmp4 rec rr.1 a1 rr.2)

noncomputable def g_symMerge_step {α : Type} [Inhabited α] (cmp4 : α → α → Option Int) (rec : (List α) → Int → Int → Int → Option (List α)) (data0 : (List α)) (a1 : Int) (m2 : Int) (b3 : Int) : Option (List α) :=
  cond (decide ((IntKind.i64.wrap (m2 - a1)) = (1 : Int)))
  (g_symMerge_h15 cmp4 rec data0 a1 m2 b3)
  (g_symMerge_j1 cmp4 rec data0 a1 m2 b3)

noncomputable def g_symMerge_at {α : Type} [Inhabited α] (cmp4 : α → α → Option Int) : Nat → (List α) → Int → Int → Int → Option (List α)
  | 0 => fun _ _ _ _ => none
  | k + 1 => g_symMerge_step cmp4 (g_symMerge_at cmp4 k)

noncomputable def gs_symMerge {α : Type} [Inhabited α] (data0 : (List α)) (a1 : Int) (m2 : Int) (b3 : Int) (cmp4 : α → α → Option Int) : Option (List α) := fixN (fun k => g_symMerge_at cmp4 k data0 a1 m2 b3)

noncomputable def g_stable_j4 {α : Type} [Inhabited α] (cmp2 : α → α → Option Int) (data0 : List α) (n1 : Int) (blockSize6 : Int) : Option ((List α × Int) ⊕ ((List α))) :=
  some (.inl (data0, IntKind.i64.wrap (blockSize6 * (2 : Int))))

noncomputable def g_stable_j3 {α : Type} [Inhabited α] (cmp2 : α → α → Option Int) (data0 : List α) (n1 : Int) (blockSize6 : Int) (a7 : Int) : Option ((List α × Int) ⊕ ((List α))) :=
  cond (decide ((IntKind.i64.wrap (a7 + blockSize6)) < n1))
  ((gs_symMerge data0 a7 (IntKind.i64.wrap (a7 + blockSize6)) n1 cmp2).bind fun x4 =>
  g_stable_j4 cmp2 x4 n1 blockSize6)
  (g_stable_j4 cmp2 data0 n1 blockSize6)

noncomputable def g_stable_l5 {α : Type} [Inhabited α] (cmp2 : α → α → Option Int) (n1 : Int) (blockSize6 : Int) (data0 : List α) (a7 : Int) (b8 : Int) : Option ((List α × Int × Int) ⊕ ((List α × Int))) :=
  cond (decide (b8 ≤ n1))
  ((gs_symMerge data0 a7 (IntKind.i64.wrap (a7 + blockSize6)) b8 cmp2).bind fun x8 =>
  some (.inl (x8, b8, IntKind.i64.wrap (b8 + (IntKind.i64.wrap ((2 : Int) * blockSize6))))))
  (some (.inr (data0, a7)))

noncomputable def g_stable_h5 {α : Type} [Inhabited α] (cmp2 : α → α → Option Int) (data0 : List α) (n1 : Int) (blockSize6 : Int) (a7 : Int) (b8 : Int) : Option ((List α × Int) ⊕ ((List α))) :=
  (lp (fun s => g_stable_l5 cmp2 n1 blockSize6 s.1 s.2.1 s.2.2) (data0, a7, b8)).bind (fun rr => g_stable_j3 cmp2 rr.1 n1 blockSize6 rr.2)

noncomputable def g_stable_l2 {α : Type} [Inhabited α] (cmp2 : α → α → Option Int) (n1 : Int) (data0 : List α) (blockSize6 : Int) : Option ((List α × Int) ⊕ ((List α))) :=
  cond (decide (blockSize6 < n1))
  (g_stable_h5 cmp2 data0 n1 blockSize6 (0 : Int) (IntKind.i64.wrap ((2 : Int) * blockSize6)))
  (some (.inr data0))

noncomputable def g_stable_h2 {α : Type} [Inhabited α] (cmp2 : α → α → Option Int) (data0 : List α) (n1 : Int) (blockSize6 : Int) : Option (List α) :=
  (lp (fun s => g_stable_l2 cmp2 n1 s.1 s.2) (data0, blockSize6)).bind (fun rr => some rr)

noncomputable def g_stable_j1 {α : Type} [Inhabited α] (cmp2 : α → α → Option Int) (data0 : List α) (n1 : Int) (blockSize6 : Int) (a7 : Int) : Option (List α) :=
  (gs_insertionSort data0 a7 n1 cmp2).bind fun x1 =>
  g_stable_h2 cmp2 x1 n1 blockSize6

noncomputable def g_stable_l6 {α : Type} [Inhabited α] (cmp2 : α → α → Option Int) (n1 : Int) (blockSize6 : Int) (data0 : List α) (a7 : Int) (b8 : Int) : Option ((List α × Int × Int) ⊕ ((List α × Int))) :=
  cond (decide (b8 ≤ n1))
  ((gs_insertionSort data0 a7 b8 cmp2).bind fun x13 =>
  some (.inl (x13, b8, IntKind.i64.wrap (b8 + blockSize6))))
  (some (.inr (data0, a7)))

noncomputable def g_stable_h6 {α : Type} [Inhabited α] (cmp2 : α → α → Option Int) (data0 : List α) (n1 : Int) (blockSize6 : Int) (a7 : Int) (b8 : Int) : Option (List α) :=
  (lp (fun s => g_stable_l6 cmp2 n1 blockSize6 s.1 s.2.1 s.2.2) (data0, a7, b8)).bind (fun rr => g_stable_j1 cmp2 rr.1 n1 blockSize6 rr.2)

noncomputable def gs_stable {α : Type} [Inhabited α] (data0 : (List α)) (n1 : Int) (cmp2 : α → α → Option Int) : Option (List α) :=
  g_stable_h6 cmp2 data0 n1 (20 : Int) (0 : Int) (20 : Int)

end Go.Abs
namespace Go.Abs
open Go
variable {α : Type} [Inhabited α]
/-- How elements are compared: what of them may be compared, and which may stand ahead of which. -/
structure Cmp {β : Type} (ok : β → Prop) (le : β → β → Prop) (cmp : β → β → Option Int) : Prop where
  ans : ∀ x y, ok x → ok y → ∃ v, cmp x y = some v ∧ (v < 0 ↔ ¬ le y x)
  trans : ∀ x y z, ok x → ok y → ok z → le x y → le y z → le x z
  total : ∀ x y, ok x → ok y → le x y ∨ le y x

abbrev Srt {β : Type} (le : β → β → Prop) (l : List β) : Prop := l.Pairwise le

abbrev Oks {β : Type} (ok : β → Prop) (l : List β) : Prop := ∀ x ∈ l, ok x

theorem getD_mid {Q R : List α} {x : α} : (Q ++ x :: R).getD Q.length default = x := by simp [List.getD_eq_getElem?_getD]

theorem set_mid {β : Type} {Q R : List β} {x y : β} : (Q ++ x :: R).set Q.length y = Q ++ y :: R := by simp

theorem getD_at {Q R d : List α} {x : α} {n : Nat} (hd : d = Q ++ x :: R) (hn : n = Q.length) : d.getD n default = x := by subst hd; subst hn; exact getD_mid

theorem set_at {β : Type} {Q R d : List β} {x y : β} {n : Nat} (hd : d = Q ++ x :: R) (hn : n = Q.length) : d.set n y = Q ++ y :: R := by subst hd; subst hn; exact set_mid

theorem wr {n : Int} (h1 : -1099511627776 ≤ n) (h2 : n ≤ 8796093022208) : IntKind.i64.wrap n = n := wrap_in (by omega) (by omega)

theorem swap_two {β : Type} {Q M R d : List β} {x y : β} {a b : Nat} (hd : d = Q ++ x :: (M ++ y :: R)) (ha : a = Q.length) (hb : b = Q.length + 1 + M.length) : (d.set a y).set b x = Q ++ y :: (M ++ x :: R) := by
  rw [set_at hd ha, set_at (Q := Q ++ y :: M) (x := y) (R := R) (by simp) (by simp; omega)]
  simp

section ins
variable {ok : α → Prop} {le : α → α → Prop} {cmp : α → α → Option Int}
theorem ins_body_stop {A T : List α} {x : α} {a b i : Int} {P : List α} (ha : a = (P.length : Nat)) (hl : (P ++ A ++ x :: T).length ≤ 1099511627776)
    (hs : A = [] ∨ ∃ A' y v, A = A' ++ [y] ∧ cmp x y = some v ∧ ¬ v < 0) : g_insertionSort_l3 cmp a b i (P ++ A ++ x :: T) ((P.length + A.length : Nat) : Int) = some (.inr (P ++ A ++ x :: T)) := by
  simp only [List.length_append, List.length_cons] at hl
  unfold g_insertionSort_l3
  rcases hs with rfl | ⟨A', y, v, rfl, hc, hv⟩
  · have h : decide (a < ((P.length + ([] : List α).length : Nat) : Int)) = false := by subst ha; simp
    rw [h, asrt_pos (fun h => by cases h), asrt_pos (fun h => by cases h)]
    simp [gcall]
  · simp only [List.length_append, List.length_cons, List.length_nil] at hl ⊢
    have h : decide (a < ((P.length + (A'.length + (0 + 1)) : Nat) : Int)) = true := by subst ha; simp; omega
    have hw : IntKind.i64.wrap (((P.length + (A'.length + (0 + 1)) : Nat) : Int) - 1) = ((P.length + A'.length : Nat) : Int) := by rw [wr (by omega) (by omega)]; omega
    have g1 : (P ++ (A' ++ [y]) ++ x :: T).getD (P.length + (A'.length + (0 + 1))) default = x := getD_at (Q := P ++ (A' ++ [y])) rfl (by simp)
    have g2 : (P ++ (A' ++ [y]) ++ x :: T).getD (P.length + A'.length) default = y := getD_at (Q := P ++ A') (R := x :: T) (by simp) (by simp)
    rw [h, hw, asrt_pos (fun _ => ⟨by omega, by omega⟩), asrt_pos (fun _ => ⟨by omega, by omega⟩)]
    rw [Int.toNat_natCast, Int.toNat_natCast, g1, g2]
    simp [gcall, hc, hv]

theorem ins_body_go {A T : List α} {x y : α} {v : Int} {a b i : Int} {P : List α} (ha : a = (P.length : Nat)) (hl : (P ++ (A ++ [y]) ++ x :: T).length ≤ 1099511627776)
    (hc : cmp x y = some v) (hv : v < 0) : g_insertionSort_l3 cmp a b i (P ++ (A ++ [y]) ++ x :: T) ((P.length + (A ++ [y]).length : Nat) : Int) = some (.inl (P ++ A ++ x :: (y :: T), ((P.length + A.length : Nat) : Int))) := by
  simp only [List.length_append, List.length_cons, List.length_nil] at hl ⊢
  unfold g_insertionSort_l3
  have h : decide (a < ((P.length + (A.length + (0 + 1)) : Nat) : Int)) = true := by subst ha; simp; omega
  have hw : IntKind.i64.wrap (((P.length + (A.length + (0 + 1)) : Nat) : Int) - 1) = ((P.length + A.length : Nat) : Int) := by rw [wr (by omega) (by omega)]; omega
  have g1 : (P ++ (A ++ [y]) ++ x :: T).getD (P.length + (A.length + (0 + 1))) default = x := getD_at (Q := P ++ (A ++ [y])) rfl (by simp)
  have g2 : (P ++ (A ++ [y]) ++ x :: T).getD (P.length + A.length) default = y := getD_at (Q := P ++ A) (R := x :: T) (by simp) (by simp)
  have hs : ((P ++ (A ++ [y]) ++ x :: T).set (P.length + (A.length + (0 + 1))) y).set (P.length + A.length) x = P ++ A ++ x :: (y :: T) := by
    rw [set_at (Q := P ++ (A ++ [y])) (x := x) (R := T) rfl (by simp), set_at (Q := P ++ A) (x := y) (R := y :: T) (by simp) (by simp)]
  have b1 : 0 ≤ ((P.length + (A.length + (0 + 1)) : Nat) : Int) ∧ ((P.length + (A.length + (0 + 1)) : Nat) : Int) < ((List.length (P ++ (A ++ [y]) ++ x :: T) : Nat) : Int) := ⟨by omega, by simp only [List.length_append, List.length_cons, List.length_nil]; omega⟩
  have b2 : 0 ≤ ((P.length + A.length : Nat) : Int) ∧ ((P.length + A.length : Nat) : Int) < ((List.length (P ++ (A ++ [y]) ++ x :: T) : Nat) : Int) := ⟨by omega, by simp only [List.length_append, List.length_cons, List.length_nil]; omega⟩
  rw [h, hw, asrt_pos (fun _ => b1), asrt_pos (fun _ => b2), Int.toNat_natCast, Int.toNat_natCast, g1, g2]
  simp only [gcall, cond_true, hc, Option.bind_some, Bool.true_and, decide_eq_true hv]
  rw [asrt_pos b2, asrt_pos b1, asrt_pos b1, asrt_pos b2, hs]

/-- One element goes to its place. -/
theorem ins_inner (C : Cmp ok le cmp) {x : α} (hx : ok x) {a b i : Int} {P : List α} (ha : a = (P.length : Nat)) : ∀ (n : Nat) (A B T : List α), A.length = n → Oks ok A → Oks ok B → Srt le (A ++ B) → (∀ y ∈ B, ¬ le y x) → (P ++ A ++ x :: (B ++ T)).length ≤ 1099511627776 →
    ∃ D, D.Perm (A ++ x :: B) ∧ Srt le D ∧ lp (fun s : List α × Int => g_insertionSort_l3 cmp a b i s.1 s.2) (P ++ A ++ x :: (B ++ T), ((P.length + A.length : Nat) : Int)) = some (P ++ D ++ T) := by
  intro n
  induction n with
  | zero =>
    intro A B T hn _ hB hs hlt hl
    have hA : A = [] := List.length_eq_zero_iff.1 hn
    subst hA
    refine ⟨x :: B, List.Perm.refl _, ?_, ?_⟩
    · refine List.pairwise_cons.2 ⟨fun y hy => ?_, by simpa using hs⟩
      rcases C.total x y hx (hB y hy) with h | h
      · exact h
      · exact absurd h (hlt y hy)
    · rw [lp_last (ins_body_stop ha hl (Or.inl rfl))]; simp
  | succ n ih =>
    intro A B T hn hA hB hs hlt hl
    obtain ⟨A', y, rfl⟩ : ∃ A' y, A = A' ++ [y] := by
      rcases List.eq_nil_or_concat A with h | ⟨A', y, h⟩
      · rw [h] at hn; simp at hn
      · exact ⟨A', y, by simpa using h⟩
    have hy : ok y := hA y (by simp)
    obtain ⟨v, hc, hv⟩ := C.ans x y hx hy
    by_cases hneg : v < 0
    · have hb := ins_body_go (i := i) (b := b) ha hl hc hneg
      have hl' : (P ++ A' ++ x :: ((y :: B) ++ T)).length ≤ 1099511627776 := by
        simp only [List.length_append, List.length_cons, List.length_nil] at hl ⊢; omega
      obtain ⟨D, d1, d2, d3⟩ := ih A' (y :: B) T (by simpa using hn) (fun z hz => hA z (by simp [hz])) (fun z hz => by rcases List.mem_cons.1 hz with rfl | hz; exact hy; exact hB z hz) (by simpa using hs)
        (fun z hz => by rcases List.mem_cons.1 hz with rfl | hz; exact hv.1 hneg; exact hlt z hz) hl'
      refine ⟨D, d1.trans ?_, d2, ?_⟩
      · simp only [List.append_assoc, List.singleton_append]
        exact List.Perm.append_left _ (List.Perm.swap ..)
      · rw [lp_next hb]; simpa using d3
    · refine ⟨A' ++ [y] ++ x :: B, List.Perm.refl _, ?_, ?_⟩
      · have hyx : le y x := Classical.byContradiction fun h => hneg (hv.2 h)
        simp only [Srt, List.pairwise_append] at hs ⊢
        obtain ⟨s1, s2, s3⟩ := hs
        refine ⟨s1, List.pairwise_cons.2 ⟨fun z hz => ?_, s2⟩, ?_⟩
        · rcases C.total x z hx (hB z hz) with h | h
          · exact h
          · exact absurd h (hlt z hz)
        · intro z hz w hw
          rcases List.mem_cons.1 hw with rfl | hw
          · rcases List.mem_append.1 hz with hz' | hz'
            · exact C.trans z y w (hA z hz) hy hx (s1.2.2 z hz' y (by simp)) hyx
            · rw [List.mem_singleton] at hz'; subst hz'; exact hyx
          · exact s3 z hz w hw
      · rw [lp_last (ins_body_stop ha hl (Or.inr ⟨A', y, v, rfl, hc, hneg⟩))]
        simp

/-- Insertion, element by element. -/
theorem ins_outer (C : Cmp ok le cmp) {a b : Int} {P : List α} (ha : a = (P.length : Nat)) : ∀ (B A T : List α), Oks ok A → Oks ok B → Srt le A → b = ((P.length + A.length + B.length : Nat) : Int) → (P ++ A ++ (B ++ T)).length ≤ 1099511627776 →
    ∃ D, D.Perm (A ++ B) ∧ Srt le D ∧ lp (fun s : List α × Int => g_insertionSort_l1 cmp a b s.1 s.2) (P ++ A ++ (B ++ T), ((P.length + A.length : Nat) : Int)) = some (P ++ D ++ T)
  | [], A, T, _, _, hs, hb, _ => by
    refine ⟨A, by simp, hs, lp_last ?_⟩
    have : decide (((P.length + A.length : Nat) : Int) < b) = false := by subst hb; simp
    simp only [g_insertionSort_l1, this, cond_false, List.nil_append]
  | x :: B, A, T, hA, hB, hs, hb, hl => by
    obtain ⟨D, d1, d2, d3⟩ := ins_inner C (hB x (by simp)) (b := b) (i := ((P.length + A.length : Nat) : Int)) ha A.length A [] (B ++ T) rfl hA (by intro z hz; simp at hz) (by simpa using hs) (by simp) (by simpa using hl)
    have hD : D.length = A.length + 1 := by rw [d1.length_eq]; simp
    have hlt : decide (((P.length + A.length : Nat) : Int) < b) = true := by subst hb; simp; omega
    have hbod : (fun s : List α × Int => g_insertionSort_l1 cmp a b s.1 s.2) (P ++ A ++ (x :: B ++ T), ((P.length + A.length : Nat) : Int)) = some (.inl (P ++ D ++ (B ++ T), ((P.length + D.length : Nat) : Int))) := by
      show g_insertionSort_l1 cmp a b _ _ = _
      simp only [g_insertionSort_l1, hlt, cond_true, g_insertionSort_h3]
      rw [show P ++ A ++ (x :: B ++ T) = P ++ A ++ x :: ([] ++ (B ++ T)) by simp, d3]
      simp only [Option.bind_some, g_insertionSort_j2]
      rw [wr (by omega) (by simp only [List.length_append, List.length_cons] at hl; omega), hD]
      congr 1
    have hl' : (P ++ D ++ (B ++ T)).length ≤ 1099511627776 := by simp only [List.length_append, List.length_cons] at hl ⊢; omega
    obtain ⟨E, e1, e2, e3⟩ := ins_outer C (b := b) ha B D T (fun z hz => by
      have := d1.mem_iff.1 hz
      rcases List.mem_append.1 this with h | h
      · exact hA z h
      · rw [List.mem_singleton] at h; subst h; exact hB z (by simp)) (fun z hz => hB z (by simp [hz])) d2 (by rw [hb]; simp only [List.length_cons]; congr 1; omega) hl'
    refine ⟨E, e1.trans ?_, e2, by rw [lp_next hbod]; exact e3⟩
    have := d1.append_right B
    simpa using this

theorem gs_ins (C : Cmp ok le cmp) {P A T : List α} {a b : Int} (ha : a = (P.length : Nat)) (hb : b = ((P.length + A.length : Nat) : Int)) (hA : Oks ok A) (hl : (P ++ A ++ T).length ≤ 1099511627776) :
    ∃ D, D.Perm A ∧ Srt le D ∧ gs_insertionSort (P ++ A ++ T) a b cmp = some (P ++ D ++ T) := by
  unfold gs_insertionSort g_insertionSort_h1
  simp only [List.length_append] at hl
  cases A with
  | nil =>
    refine ⟨[], List.Perm.refl _, List.Pairwise.nil, ?_⟩
    rw [lp_last (r := P ++ [] ++ T)]
    · rfl
    · have : decide (IntKind.i64.wrap (a + 1) < b) = false := by
        rw [wr (by omega) (by omega)]; subst ha; subst hb; simp; omega
      simp only [g_insertionSort_l1, this, cond_false]
  | cons x A =>
    simp only [List.length_cons] at hl
    have hw : IntKind.i64.wrap (a + 1) = ((P.length + [x].length : Nat) : Int) := by rw [wr (by omega) (by omega)]; subst ha; simp
    obtain ⟨D, d1, d2, d3⟩ := ins_outer C (b := b) ha A [x] T (fun z hz => by rw [List.mem_singleton] at hz; subst hz; exact hA z (by simp)) (fun z hz => hA z (by simp [hz])) (by simp) (by rw [hb]; simp only [List.length_cons, List.length_nil]; congr 1; omega) (by simp only [List.length_append, List.length_cons, List.length_nil]; omega)
    refine ⟨D, by simpa using d1, d2, ?_⟩
    rw [hw, show P ++ x :: A ++ T = P ++ [x] ++ (A ++ T) by simp, d3]
    rfl

end ins
theorem swapRange_lp {cmp : α → α → Option Int} {a b n : Int} : ∀ (X Y Q Z R : List α) (i : Nat), X.length = Y.length → a + i = (Q.length : Nat) → b + i = ((Q.length + X.length + Z.length : Nat) : Int) → n = ((i + X.length : Nat) : Int) → 0 ≤ a → 0 ≤ b → (Q ++ X ++ Z ++ Y ++ R).length ≤ 1099511627776 →
    lp (fun s : List α × Int => g_swapRange_l1 cmp a b n s.1 s.2) (Q ++ X ++ Z ++ Y ++ R, ((i : Nat) : Int)) = some (Q ++ Y ++ Z ++ X ++ R)
  | [], Y, Q, Z, R, i, hxy, ha, hb, hn, _, _, hl => by
    have : Y = [] := List.length_eq_zero_iff.1 hxy.symm
    subst this
    refine lp_last ?_
    have : decide (((i : Nat) : Int) < n) = false := by subst hn; simp
    simp only [g_swapRange_l1, this, cond_false]
  | x :: X, [], Q, Z, R, i, hxy, _, _, _, _, _, _ => by simp at hxy
  | x :: X, y :: Y, Q, Z, R, i, hxy, ha, hb, hn, ha0, hb0, hl => by
    simp only [List.length_append, List.length_cons] at hl hb hn hxy
    have hlt : decide (((i : Nat) : Int) < n) = true := by subst hn; simp; omega
    have wa : IntKind.i64.wrap (a + i) = ((Q.length : Nat) : Int) := by rw [wr (by omega) (by omega)]; exact ha
    have wb : IntKind.i64.wrap (b + i) = ((Q.length + 1 + (X ++ Z).length : Nat) : Int) := by rw [wr (by omega) (by omega), hb]; simp only [List.length_append]; congr 1; omega
    have wi : IntKind.i64.wrap (((i : Nat) : Int) + 1) = ((i + 1 : Nat) : Int) := by rw [wr (by omega) (by omega)]; omega
    have hd : Q ++ x :: X ++ Z ++ y :: Y ++ R = Q ++ x :: ((X ++ Z) ++ y :: (Y ++ R)) := by simp
    have b1 : 0 ≤ ((Q.length : Nat) : Int) ∧ ((Q.length : Nat) : Int) < ((List.length (Q ++ x :: X ++ Z ++ y :: Y ++ R) : Nat) : Int) := ⟨by omega, by simp only [List.length_append, List.length_cons]; omega⟩
    have b2 : 0 ≤ ((Q.length + 1 + (X ++ Z).length : Nat) : Int) ∧ ((Q.length + 1 + (X ++ Z).length : Nat) : Int) < ((List.length (Q ++ x :: X ++ Z ++ y :: Y ++ R) : Nat) : Int) := ⟨by omega, by simp only [List.length_append, List.length_cons]; omega⟩
    have g1 : (Q ++ x :: X ++ Z ++ y :: Y ++ R).getD Q.length default = x := getD_at hd rfl
    have g2 : (Q ++ x :: X ++ Z ++ y :: Y ++ R).getD (Q.length + 1 + (X ++ Z).length) default = y := getD_at (Q := Q ++ x :: X ++ Z) (R := Y ++ R) (by simp) (by simp; omega)
    have hbod : (fun s : List α × Int => g_swapRange_l1 cmp a b n s.1 s.2) (Q ++ x :: X ++ Z ++ y :: Y ++ R, ((i : Nat) : Int)) = some (.inl ((Q ++ [y]) ++ X ++ (Z ++ [x]) ++ Y ++ R, ((i + 1 : Nat) : Int))) := by
      show g_swapRange_l1 cmp a b n _ _ = _
      simp only [g_swapRange_l1, hlt, cond_true, wa, wb, wi, asrt_pos b1, asrt_pos b2, Int.toNat_natCast, g1, g2]
      rw [swap_two hd rfl rfl]
      simp
    rw [lp_next hbod, swapRange_lp X Y (Q ++ [y]) (Z ++ [x]) R (i + 1) (by omega) (by simp; omega) (by simp; omega) (by rw [hn]; congr 1; omega) ha0 hb0 (by simp only [List.length_append, List.length_cons, List.length_nil]; omega)]
    simp

theorem gs_swap {cmp : α → α → Option Int} {a b n : Int} {X Y Q Z R d : List α} (hd : d = Q ++ X ++ Z ++ Y ++ R) (hxy : X.length = Y.length) (ha : a = (Q.length : Nat)) (hb : b = ((Q.length + X.length + Z.length : Nat) : Int)) (hn : n = (X.length : Nat)) (hl : d.length ≤ 1099511627776) :
    gs_swapRange d a b n cmp = some (Q ++ Y ++ Z ++ X ++ R) := by
  subst hd
  unfold gs_swapRange g_swapRange_h1
  have := swapRange_lp (cmp := cmp) (a := a) (b := b) (n := n) X Y Q Z R 0 hxy (by omega) (by omega) (by omega) (by omega) (by omega) hl
  simp only [Int.natCast_zero] at this
  rw [this]; rfl

theorem rotate_lp {cmp : α → α → Option Int} {m : Int} : ∀ (n : Nat) (X Y Q R : List α), X.length + Y.length ≤ n → X ≠ [] → Y ≠ [] → m = ((Q.length + X.length : Nat) : Int) → (Q ++ X ++ Y ++ R).length ≤ 1099511627776 →
    (lp (fun s : List α × Int × Int => g_rotate_l2 cmp m s.1 s.2.1 s.2.2) (Q ++ X ++ Y ++ R, ((X.length : Nat) : Int), ((Y.length : Nat) : Int))).bind (fun rr => g_rotate_j1 cmp rr.1 m rr.2) = some (Q ++ Y ++ X ++ R) := by
  intro n
  induction n with
  | zero => intro X Y Q R hn hX; exact absurd (List.length_eq_zero_iff.1 (by omega)) hX
  | succ n ih =>
    intro X Y Q R hn hX hY hm hl
    have hX' : 0 < X.length := List.length_pos_iff.2 hX
    have hY' : 0 < Y.length := List.length_pos_iff.2 hY
    simp only [List.length_append] at hl
    rcases Nat.lt_trichotomy X.length Y.length with h | h | h
    · -- the second is longer
      obtain ⟨Y1, Y2, rfl, hY2⟩ : ∃ Y1 Y2, Y = Y1 ++ Y2 ∧ Y2.length = X.length := ⟨Y.take (Y.length - X.length), Y.drop (Y.length - X.length), (List.take_append_drop _ _).symm, by rw [List.length_drop]; omega⟩
      simp only [List.length_append] at hn hl h
      have hne : decide (((X.length : Nat) : Int) = (((Y1 ++ Y2).length : Nat) : Int)) = false := by simp only [List.length_append]; simp; omega
      have hlt : decide ((((Y1 ++ Y2).length : Nat) : Int) < ((X.length : Nat) : Int)) = false := by simp only [List.length_append]; simp; omega
      have e1 : IntKind.i64.wrap (m - ((X.length : Nat) : Int)) = ((Q.length : Nat) : Int) := by rw [wr (by omega) (by omega)]; omega
      have e0 : IntKind.i64.wrap (m + (((Y1 ++ Y2).length : Nat) : Int)) = m + (((Y1 ++ Y2).length : Nat) : Int) := by simp only [List.length_append]; exact wr (by omega) (by omega)
      have e2 : IntKind.i64.wrap (m + (((Y1 ++ Y2).length : Nat) : Int) - ((X.length : Nat) : Int)) = ((Q.length + X.length + Y1.length : Nat) : Int) := by simp only [List.length_append]; rw [wr (by omega) (by omega)]; omega
      have e3 : IntKind.i64.wrap ((((Y1 ++ Y2).length : Nat) : Int) - ((X.length : Nat) : Int)) = ((Y1.length : Nat) : Int) := by simp only [List.length_append]; rw [wr (by omega) (by omega)]; omega
      have hbod : (fun s : List α × Int × Int => g_rotate_l2 cmp m s.1 s.2.1 s.2.2) (Q ++ X ++ (Y1 ++ Y2) ++ R, ((X.length : Nat) : Int), (((Y1 ++ Y2).length : Nat) : Int)) = some (.inl (Q ++ Y2 ++ Y1 ++ (X ++ R), ((Y2.length : Nat) : Int), ((Y1.length : Nat) : Int))) := by
        show g_rotate_l2 cmp m _ _ _ = _
        simp only [g_rotate_l2, hne, Bool.not_false, cond_true, hlt, cond_false, e0, e1, e2, e3]
        rw [gs_swap (X := X) (Y := Y2) (Q := Q) (Z := Y1) (R := R) (by simp) hY2.symm rfl rfl rfl (by simp only [List.length_append]; omega)]
        simp [hY2]
      rw [lp_next hbod, ih Y2 Y1 Q (X ++ R) (by omega) (fun h => by rw [h] at hY2; simp at hY2; omega) (fun h' => by rw [h'] at h; simp at h; omega) (by rw [hm]; congr 1; omega) (by simp only [List.length_append]; omega)]
      simp
    · -- alike
      have hne : decide (((X.length : Nat) : Int) = ((Y.length : Nat) : Int)) = true := by simp; omega
      rw [lp_last (r := (Q ++ X ++ Y ++ R, ((X.length : Nat) : Int))) (by show g_rotate_l2 cmp m _ _ _ = _; simp only [g_rotate_l2, hne, Bool.not_true, cond_false])]
      simp only [Option.bind_some, g_rotate_j1]
      have e1 : IntKind.i64.wrap (m - ((X.length : Nat) : Int)) = ((Q.length : Nat) : Int) := by rw [wr (by omega) (by omega)]; omega
      rw [e1, gs_swap (X := X) (Y := Y) (Q := Q) (Z := []) (R := R) (by simp) h rfl (by rw [hm]; simp) rfl (by simp only [List.length_append]; omega)]
      simp
    · -- the first is longer
      obtain ⟨X1, X2, rfl, hX1⟩ : ∃ X1 X2, X = X1 ++ X2 ∧ X1.length = Y.length := ⟨X.take Y.length, X.drop Y.length, (List.take_append_drop _ _).symm, by rw [List.length_take]; omega⟩
      simp only [List.length_append] at hn hl h hm
      have hne : decide ((((X1 ++ X2).length : Nat) : Int) = ((Y.length : Nat) : Int)) = false := by simp only [List.length_append]; simp; omega
      have hlt : decide (((Y.length : Nat) : Int) < (((X1 ++ X2).length : Nat) : Int)) = true := by simp only [List.length_append]; simp; omega
      have e1 : IntKind.i64.wrap (m - (((X1 ++ X2).length : Nat) : Int)) = ((Q.length : Nat) : Int) := by simp only [List.length_append]; rw [wr (by omega) (by omega)]; omega
      have e3 : IntKind.i64.wrap ((((X1 ++ X2).length : Nat) : Int) - ((Y.length : Nat) : Int)) = ((X2.length : Nat) : Int) := by simp only [List.length_append]; rw [wr (by omega) (by omega)]; omega
      have hbod : (fun s : List α × Int × Int => g_rotate_l2 cmp m s.1 s.2.1 s.2.2) (Q ++ (X1 ++ X2) ++ Y ++ R, (((X1 ++ X2).length : Nat) : Int), ((Y.length : Nat) : Int)) = some (.inl ((Q ++ Y) ++ X2 ++ X1 ++ R, ((X2.length : Nat) : Int), ((X1.length : Nat) : Int))) := by
        show g_rotate_l2 cmp m _ _ _ = _
        simp only [g_rotate_l2, hne, Bool.not_false, cond_true, hlt, e1, e3]
        rw [gs_swap (X := X1) (Y := Y) (Q := Q) (Z := X2) (R := R) (by simp) hX1 rfl (by rw [hm]; congr 1; omega) (by rw [hX1]) (by simp only [List.length_append]; omega)]
        simp [hX1]
      rw [lp_next hbod, ih X2 X1 (Q ++ Y) R (by omega) (fun h' => by rw [h'] at h; simp at h; omega) (fun h => by rw [h] at hX1; simp at hX1; omega) (by rw [hm]; simp only [List.length_append]; congr 1; omega) (by simp only [List.length_append]; omega)]
      simp

theorem gs_rot {cmp : α → α → Option Int} {a m b : Int} {X Y Q R d : List α} (hd : d = Q ++ X ++ Y ++ R) (hX : X ≠ []) (hY : Y ≠ []) (ha : a = (Q.length : Nat)) (hm : m = ((Q.length + X.length : Nat) : Int)) (hb : b = ((Q.length + X.length + Y.length : Nat) : Int)) (hl : d.length ≤ 1099511627776) :
    gs_rotate d a m b cmp = some (Q ++ Y ++ X ++ R) := by
  subst hd
  unfold gs_rotate g_rotate_h2
  have hl' := hl
  simp only [List.length_append] at hl'
  rw [show IntKind.i64.wrap (m - a) = ((X.length : Nat) : Int) by rw [wr (by omega) (by omega)]; omega, show IntKind.i64.wrap (b - m) = ((Y.length : Nat) : Int) by rw [wr (by omega) (by omega)]; omega]
  exact rotate_lp _ X Y Q R (Nat.le_refl _) hX hY hm hl

end Go.Abs
namespace Go.Abs
open Go
variable {α : Type} [Inhabited α]
theorem half {s : Nat} (h : s ≤ 4398046511104) : IntKind.i64.wrap (Int.fdiv (IntKind.u64.wrap (IntKind.i64.wrap (s : Int))) (2 ^ (min (Int.toNat (1 : Int)) 64))) = ((s / 2 : Nat) : Int) := by
  rw [wr (n := (s : Int)) (by omega) (by omega)]
  have hu : IntKind.u64.wrap (s : Int) = (s : Int) := by
    simp only [IntKind.wrap, IntKind.bits, IntKind.signed]
    simp
    omega
  have hp : (2 : Int) ^ (min (Int.toNat (1 : Int)) 64) = 2 := by decide
  rw [hu, hp, Int.fdiv_eq_ediv_of_nonneg _ (by omega), wr (by omega) (by omega)]
  omega

theorem getD_seg {P B S d : List α} {n k : Nat} (hd : d = P ++ B ++ S) (hn : n = P.length + k) (hk : k < B.length) : d.getD n default = B.getD k default := by
  subst hd; subst hn
  simp only [List.getD_eq_getElem?_getD]
  rw [List.append_assoc, List.getElem?_append_right (by omega), List.getElem?_append_left (by omega)]
  congr 2; omega

theorem mem_take {l : List α} {t : Nat} {y : α} (h : y ∈ l.take t) : ∃ i, i < t ∧ i < l.length ∧ y = l.getD i default := by
  obtain ⟨i, hi, rfl⟩ := List.mem_iff_getElem.1 h
  rw [List.length_take] at hi
  refine ⟨i, by omega, by omega, ?_⟩
  rw [List.getElem_take, List.getD_eq_getElem?_getD, List.getElem?_eq_getElem (by omega)]; rfl

theorem mem_drop {l : List α} {t : Nat} {y : α} (h : y ∈ l.drop t) : ∃ i, t ≤ i ∧ i < l.length ∧ y = l.getD i default := by
  obtain ⟨i, hi, rfl⟩ := List.mem_iff_getElem.1 h
  rw [List.length_drop] at hi
  refine ⟨t + i, by omega, by omega, ?_⟩
  rw [List.getElem_drop, List.getD_eq_getElem?_getD, List.getElem?_eq_getElem (by omega)]; rfl

theorem getD_mem {l : List α} {i : Nat} (h : i < l.length) : l.getD i default ∈ l := by
  rw [List.getD_eq_getElem?_getD, List.getElem?_eq_getElem h]; exact List.getElem_mem h

section sym
variable {ok : α → Prop} {le : α → α → Prop} {cmp : α → α → Option Int}
theorem Cmp.refl {β : Type} {ok : β → Prop} {le : β → β → Prop} {cmp : β → β → Option Int} (C : Cmp ok le cmp) {x : β} (h : ok x) : le x x := by rcases C.total x x h h with h | h <;> exact h

theorem srt_at (C : Cmp ok le cmp) {l : List α} (ho : Oks ok l) (hs : Srt le l) {i j : Nat} (hij : i ≤ j) (hj : j < l.length) : le (l.getD i default) (l.getD j default) := by
  rcases Nat.lt_or_eq_of_le hij with h | h
  · have := List.pairwise_iff_getElem.1 hs i j (by omega) hj h
    simpa [List.getD_eq_getElem?_getD, List.getElem?_eq_getElem hj, List.getElem?_eq_getElem (show i < l.length by omega)] using this
  · subst h; exact C.refl (ho _ (getD_mem hj))

theorem take_srt {β : Type} {le : β → β → Prop} {l : List β} (h : Srt le l) (t : Nat) : Srt le (l.take t) := List.Pairwise.sublist (List.take_sublist t l) h

theorem drop_srt {β : Type} {le : β → β → Prop} {l : List β} (h : Srt le l) (t : Nat) : Srt le (l.drop t) := List.Pairwise.sublist (List.drop_sublist t l) h

/-- Looking for a place by halving. -/
theorem bin_lp {β : Type} {body : (List β × Int × Int) → Option ((List β × Int × Int) ⊕ (List β × Int))} {d : List β} {f : Nat → Prop} {lo hi : Nat}
    (hb : ∀ i j : Nat, lo ≤ i → i < j → j ≤ hi → ∃ t : Bool, (t = true ↔ f ((i + j) / 2)) ∧ body (d, (i : Int), (j : Int)) = some (.inl (if t then (d, (((i + j) / 2 + 1 : Nat) : Int), (j : Int)) else (d, (i : Int), (((i + j) / 2 : Nat) : Int)))))
    (he : ∀ i : Nat, body (d, (i : Int), (i : Int)) = some (.inr (d, (i : Int)))) :
    ∀ (n i j : Nat), j - i ≤ n → lo ≤ i → i ≤ j → j ≤ hi → (i = lo ∨ f (i - 1)) → (j = hi ∨ ¬ f j) → ∃ s, lo ≤ s ∧ s ≤ hi ∧ (s = lo ∨ f (s - 1)) ∧ (s = hi ∨ ¬ f s) ∧ lp body (d, (i : Int), (j : Int)) = some (d, ((s : Nat) : Int)) := by
  intro n
  induction n with
  | zero =>
    intro i j hn h1 h2 h3 h4 h5
    have : i = j := by omega
    subst this
    exact ⟨i, h1, h3, h4, h5, lp_last (he i)⟩
  | succ n ih =>
    intro i j hn h1 h2 h3 h4 h5
    by_cases hij : i = j
    · subst hij; exact ⟨i, h1, h3, h4, h5, lp_last (he i)⟩
    · obtain ⟨t, ht, hbt⟩ := hb i j h1 (by omega) h3
      cases t
      · obtain ⟨s, r1, r2, r3, r4, r5⟩ := ih i ((i + j) / 2) (by omega) h1 (by omega) (by omega) h4 (Or.inr (fun h => by have := ht.2 h; cases this))
        refine ⟨s, r1, r2, r3, r4, ?_⟩
        rw [lp_next hbt]; exact r5
      · obtain ⟨s, r1, r2, r3, r4, r5⟩ := ih ((i + j) / 2 + 1) j (by omega) (by omega) (by omega) h3 (Or.inr (by simpa using ht.1 rfl)) h5
        refine ⟨s, r1, r2, r3, r4, ?_⟩
        rw [lp_next hbt]; exact r5

def SymOk (le : α → α → Prop) (P A B S r : List α) : Prop := ∃ D, D.Perm (A ++ B) ∧ Srt le D ∧ r = P ++ D ++ S

/-- One goes on over some. -/
theorem mv_up {cmp : α → α → Option Int} {rec : List α → Int → Int → Int → Option (List α)} {e : Int} {x : α} : ∀ (B Q R : List α) (k : Nat), k = Q.length → e = ((Q.length + B.length + 1 : Nat) : Int) → (Q ++ x :: B ++ R).length ≤ 1099511627776 →
    lp (fun s : List α × Int => g_symMerge_l14 cmp rec e s.1 s.2) (Q ++ x :: B ++ R, (k : Int)) = some (Q ++ B ++ x :: R)
  | [], Q, R, k, hk, he, hl => by
    simp only [List.length_append, List.length_cons, List.length_nil] at hl he
    refine lp_last ?_
    show g_symMerge_l14 cmp rec e _ _ = _
    have : decide ((k : Int) < IntKind.i64.wrap (e - 1)) = false := by rw [wr (by omega) (by omega)]; simp; omega
    simp only [g_symMerge_l14, this, cond_false]
    simp
  | y :: B, Q, R, k, hk, he, hl => by
    simp only [List.length_append, List.length_cons] at hl he
    have h1 : decide ((k : Int) < IntKind.i64.wrap (e - 1)) = true := by rw [wr (by omega) (by omega)]; simp; omega
    have hw : IntKind.i64.wrap ((k : Int) + 1) = ((k + 1 : Nat) : Int) := by rw [wr (by omega) (by omega)]; omega
    have b1 : 0 ≤ (k : Int) ∧ (k : Int) < ((List.length (Q ++ x :: y :: B ++ R) : Nat) : Int) := ⟨by omega, by simp only [List.length_append, List.length_cons]; omega⟩
    have b2 : 0 ≤ ((k + 1 : Nat) : Int) ∧ ((k + 1 : Nat) : Int) < ((List.length (Q ++ x :: y :: B ++ R) : Nat) : Int) := ⟨by omega, by simp only [List.length_append, List.length_cons]; omega⟩
    have hd : Q ++ x :: y :: B ++ R = Q ++ x :: ([] ++ y :: (B ++ R)) := by simp
    have g1 : (Q ++ x :: y :: B ++ R).getD k default = x := getD_at hd hk
    have g2 : (Q ++ x :: y :: B ++ R).getD (k + 1) default = y := getD_at (Q := Q ++ [x]) (R := B ++ R) (by simp) (by simp; omega)
    have hb : (fun s : List α × Int => g_symMerge_l14 cmp rec e s.1 s.2) (Q ++ x :: y :: B ++ R, (k : Int)) = some (.inl ((Q ++ [y]) ++ x :: B ++ R, ((k + 1 : Nat) : Int))) := by
      show g_symMerge_l14 cmp rec e _ _ = _
      simp only [g_symMerge_l14, h1, cond_true, hw, asrt_pos b1, asrt_pos b2, Int.toNat_natCast, g1, g2]
      rw [swap_two (M := []) hd hk (by simp; omega)]
      simp
    rw [lp_next hb, mv_up B (Q ++ [y]) R (k + 1) (by simp; omega) (by rw [he]; simp only [List.length_append, List.length_cons, List.length_nil]; congr 1; omega) (by simp only [List.length_append, List.length_cons, List.length_nil]; omega)]
    simp

/-- One goes back over some. -/
theorem mv_down {cmp : α → α → Option Int} {rec : List α → Int → Int → Int → Option (List α)} {e : Int} {x : α} {Q : List α} (he : e = (Q.length : Nat)) : ∀ (n : Nat) (A R : List α) (k : Nat), A.length = n → k = Q.length + A.length → (Q ++ A ++ x :: R).length ≤ 1099511627776 →
    lp (fun s : List α × Int => g_symMerge_l10 cmp rec e s.1 s.2) (Q ++ A ++ x :: R, (k : Int)) = some (Q ++ x :: A ++ R) := by
  intro n
  induction n with
  | zero =>
    intro A R k hn hk hl
    have hA : A = [] := List.length_eq_zero_iff.1 hn
    subst hA
    refine lp_last ?_
    show g_symMerge_l10 cmp rec e _ _ = _
    have : decide (e < (k : Int)) = false := by simp only [List.length_nil] at hk; simp; omega
    simp only [g_symMerge_l10, this, cond_false]
    simp
  | succ n ih =>
    intro A R k hn hk hl
    obtain ⟨A', y, rfl⟩ : ∃ A' y, A = A' ++ [y] := by
      rcases List.eq_nil_or_concat A with h | ⟨A', y, h⟩
      · rw [h] at hn; simp at hn
      · exact ⟨A', y, by simpa using h⟩
    simp only [List.length_append, List.length_cons, List.length_nil] at hl hk hn
    have h1 : decide (e < (k : Int)) = true := by simp; omega
    have hw : IntKind.i64.wrap ((k : Int) - 1) = ((Q.length + A'.length : Nat) : Int) := by rw [wr (by omega) (by omega)]; omega
    have b1 : 0 ≤ (k : Int) ∧ (k : Int) < ((List.length (Q ++ (A' ++ [y]) ++ x :: R) : Nat) : Int) := ⟨by omega, by simp only [List.length_append, List.length_cons, List.length_nil]; omega⟩
    have b2 : 0 ≤ ((Q.length + A'.length : Nat) : Int) ∧ ((Q.length + A'.length : Nat) : Int) < ((List.length (Q ++ (A' ++ [y]) ++ x :: R) : Nat) : Int) := ⟨by omega, by simp only [List.length_append, List.length_cons, List.length_nil]; omega⟩
    have g1 : (Q ++ (A' ++ [y]) ++ x :: R).getD k default = x := getD_at (Q := Q ++ (A' ++ [y])) rfl (by simp; omega)
    have g2 : (Q ++ (A' ++ [y]) ++ x :: R).getD (Q.length + A'.length) default = y := getD_at (Q := Q ++ A') (R := x :: R) (by simp) (by simp)
    have hb : (fun s : List α × Int => g_symMerge_l10 cmp rec e s.1 s.2) (Q ++ (A' ++ [y]) ++ x :: R, (k : Int)) = some (.inl (Q ++ A' ++ x :: (y :: R), ((Q.length + A'.length : Nat) : Int))) := by
      show g_symMerge_l10 cmp rec e _ _ = _
      simp only [g_symMerge_l10, h1, cond_true, hw, asrt_pos b1, asrt_pos b2, Int.toNat_natCast, g1, g2]
      rw [set_at (Q := Q ++ (A' ++ [y])) (x := x) (R := R) rfl (by simp; omega), set_at (Q := Q ++ A') (x := y) (R := y :: R) (by simp) (by simp)]
    rw [lp_next hb, ih A' (y :: R) (Q.length + A'.length) (by omega) rfl (by simp only [List.length_append, List.length_cons]; omega)]
    simp

/-- What one round comes to, however it goes on. -/
def SymStep (cmp : α → α → Option Int) (le : α → α → Prop) (P A B S : List α) (d : List α) (a m b : Int) : Prop :=
  (∃ r, SymOk le P A B S r ∧ ∀ rec, g_symMerge_step cmp rec d a m b = some r) ∨
  (∃ A1 A2 B1 B2, A = A1 ++ A2 ∧ B = B1 ++ B2 ∧ 0 < A1.length + B1.length ∧ 0 < A2.length + B2.length ∧ (∀ x ∈ A1 ++ B1, ∀ y ∈ A2 ++ B2, le x y) ∧
    ∀ rec, g_symMerge_step cmp rec d a m b = (cond (decide (A1 ≠ [] ∧ B1 ≠ [])) (rec (P ++ A1 ++ B1 ++ A2 ++ B2 ++ S) a (a + (A1.length : Nat)) (a + ((A1.length + B1.length : Nat) : Int))) (some (P ++ A1 ++ B1 ++ A2 ++ B2 ++ S))).bind fun x =>
      cond (decide (A2 ≠ [] ∧ B2 ≠ [])) (rec x (a + ((A1.length + B1.length : Nat) : Int)) (a + ((A1.length + B1.length + A2.length : Nat) : Int)) b) (some x))

theorem sym_first (C : Cmp ok le cmp) {P B S : List α} {x : α} {a m b : Int} (hx : ok x) (hB : Oks ok B) (hs : Srt le B) (ha : a = (P.length : Nat)) (hm : m = ((P.length + 1 : Nat) : Int)) (hb : b = ((P.length + 1 + B.length : Nat) : Int)) (hl : (P ++ x :: B ++ S).length ≤ 1099511627776) :
    ∃ r, SymOk le P [x] B S r ∧ ∀ rec, g_symMerge_step cmp rec (P ++ x :: B ++ S) a m b = some r := by
  have hl' := hl
  simp only [List.length_append, List.length_cons] at hl'
  have hgx : (P ++ x :: B ++ S).getD P.length default = x := getD_at (Q := P) (R := B ++ S) (by simp) rfl
  have hgb : ∀ k, k < B.length → (P ++ x :: B ++ S).getD (P.length + 1 + k) default = B.getD k default := fun k hk => getD_seg (P := P ++ [x]) (B := B) (S := S) (by simp) (by simp) hk
  have hbin : ∀ rec, ∃ s : Nat, P.length + 1 ≤ s ∧ s ≤ P.length + 1 + B.length ∧ (s = P.length + 1 ∨ ¬ le x (B.getD (s - 1 - (P.length + 1)) default)) ∧ (s = P.length + 1 + B.length ∨ ¬ ¬ le x (B.getD (s - (P.length + 1)) default)) ∧
      lp (fun s : List α × Int × Int => g_symMerge_l15 cmp rec a s.1 s.2.1 s.2.2) (P ++ x :: B ++ S, m, b) = some (P ++ x :: B ++ S, ((s : Nat) : Int)) := by
    intro rec
    rw [hm, hb]
    refine bin_lp (lo := P.length + 1) (hi := P.length + 1 + B.length) (f := fun k => ¬ le x (B.getD (k - (P.length + 1)) default)) ?_ ?_ _ _ _ (Nat.le_refl _) (Nat.le_refl _) (by omega) (Nat.le_refl _) (Or.inl rfl) (Or.inl rfl)
    · intro i j h1 h2 h3
      have hh : (i + j) / 2 - (P.length + 1) < B.length := by omega
      have e1 : (P ++ x :: B ++ S).getD ((i + j) / 2) default = B.getD ((i + j) / 2 - (P.length + 1)) default := by
        have := hgb ((i + j) / 2 - (P.length + 1)) hh
        rwa [show P.length + 1 + ((i + j) / 2 - (P.length + 1)) = (i + j) / 2 by omega] at this
      obtain ⟨v, hc, hv⟩ := C.ans _ x (hB _ (getD_mem hh)) hx
      refine ⟨decide (v < 0), by simpa using hv, ?_⟩
      show g_symMerge_l15 cmp rec a _ _ _ = _
      have hlt : decide ((i : Int) < (j : Int)) = true := by simpa using h2
      have hadd : ((i : Int) + (j : Int)) = ((i + j : Nat) : Int) := by omega
      have w1 : IntKind.i64.wrap ((((i + j) / 2 : Nat) : Int) + 1) = (((i + j) / 2 + 1 : Nat) : Int) := by rw [wr (by omega) (by omega)]; omega
      simp only [g_symMerge_l15, hlt, cond_true, hadd, half (s := i + j) (by omega), Int.toNat_natCast, ha, e1, hgx, hc, Option.bind_some, w1]
      rw [asrt_pos (by omega), asrt_pos ⟨by omega, by simp only [List.length_append, List.length_cons]; omega⟩, asrt_pos ⟨by omega, by simp only [List.length_append, List.length_cons]; omega⟩]
      by_cases hneg : v < 0 <;> simp [hneg]
    · intro i
      show g_symMerge_l15 cmp rec a _ _ _ = _
      have hlt : decide ((i : Int) < (i : Int)) = false := by simp
      simp only [g_symMerge_l15, hlt, cond_false]
  obtain ⟨s, s1, s2, s3, s4, s5⟩ := hbin (fun _ _ _ _ => none)
  obtain ⟨t, rfl⟩ : ∃ t, s = P.length + 1 + t := ⟨s - (P.length + 1), by omega⟩
  have ht : t ≤ B.length := by omega
  have hx1 : ∀ i, i < t → le (B.getD i default) x := fun i hi => by
    have h3 : ¬ le x (B.getD (t - 1) default) := by
      rcases s3 with h | h
      · omega
      · rwa [show P.length + 1 + t - 1 - (P.length + 1) = t - 1 by omega] at h
    have h4 : le (B.getD (t - 1) default) x := by
      rcases C.total x _ hx (hB _ (getD_mem (show t - 1 < B.length by omega))) with h | h
      · exact absurd h h3
      · exact h
    exact C.trans _ _ _ (hB _ (getD_mem (by omega))) (hB _ (getD_mem (by omega))) hx (srt_at C hB hs (show i ≤ t - 1 by omega) (by omega)) h4
  have hx2 : ∀ j, t ≤ j → j < B.length → le x (B.getD j default) := fun j hj hj' => by
    have h3 : le x (B.getD t default) := by
      rcases s4 with h | h
      · omega
      · rw [show P.length + 1 + t - (P.length + 1) = t by omega] at h
        exact Classical.not_not.1 h
    exact C.trans _ _ _ hx (hB _ (getD_mem (by omega))) (hB _ (getD_mem hj')) h3 (srt_at C hB hs hj hj')
  have hBs : B.take t ++ B.drop t = B := List.take_append_drop t B
  have hlt : (B.take t).length = t := by rw [List.length_take]; omega
  refine ⟨P ++ (B.take t ++ x :: B.drop t) ++ S, ⟨_, ?_, ?_, rfl⟩, fun rec => ?_⟩
  · have := List.perm_middle (a := x) (l₁ := B.take t) (l₂ := B.drop t)
    rw [hBs] at this; exact this
  · simp only [Srt, List.pairwise_append, List.pairwise_cons]
    refine ⟨take_srt hs t, ⟨fun z hz => ?_, drop_srt hs t⟩, fun y hy z hz => ?_⟩
    · obtain ⟨j, j1, j2, rfl⟩ := mem_drop hz
      exact hx2 j j1 j2
    · obtain ⟨i, i1, i2, rfl⟩ := mem_take hy
      rcases List.mem_cons.1 hz with rfl | hz
      · exact hx1 i i1
      · obtain ⟨j, j1, j2, rfl⟩ := mem_drop hz
        exact srt_at C hB hs (by omega) j2
  · have h1 : decide (IntKind.i64.wrap (m - a) = 1) = true := by rw [wr (by omega) (by omega)]; simp; omega
    have s5' : lp (fun s : List α × Int × Int => g_symMerge_l15 cmp rec a s.1 s.2.1 s.2.2) (P ++ x :: B ++ S, m, b) = some (P ++ x :: B ++ S, ((P.length + 1 + t : Nat) : Int)) := s5
    simp only [g_symMerge_step, h1, cond_true, g_symMerge_h15, s5', Option.bind_some, g_symMerge_j12, g_symMerge_h14]
    have hmv := mv_up (cmp := cmp) (rec := rec) (e := ((P.length + 1 + t : Nat) : Int)) (x := x) (B.take t) P (B.drop t ++ S) P.length rfl (by rw [hlt]; congr 1; omega) (by simp only [List.length_append, List.length_cons, List.length_drop]; omega)
    have hd : P ++ x :: B.take t ++ (B.drop t ++ S) = P ++ x :: B ++ S := by
      have : P ++ x :: B.take t ++ (B.drop t ++ S) = P ++ x :: (B.take t ++ B.drop t) ++ S := by simp only [List.append_assoc, List.cons_append]
      rw [this, hBs]
    rw [hd] at hmv
    rw [ha, hmv]
    simp [g_symMerge_j13]

theorem sym_last (C : Cmp ok le cmp) {P A S : List α} {x : α} {a m b : Int} (hx : ok x) (hA : Oks ok A) (hs : Srt le A) (hA1 : A.length ≠ 1) (ha : a = (P.length : Nat)) (hm : m = ((P.length + A.length : Nat) : Int)) (hb : b = ((P.length + A.length + 1 : Nat) : Int)) (hl : (P ++ A ++ x :: S).length ≤ 1099511627776) :
    ∃ r, SymOk le P A [x] S r ∧ ∀ rec, g_symMerge_step cmp rec (P ++ A ++ x :: S) a m b = some r := by
  have hl' := hl
  simp only [List.length_append, List.length_cons] at hl'
  have hgx : (P ++ A ++ x :: S).getD (P.length + A.length) default = x := getD_at (Q := P ++ A) (R := S) rfl (by simp)
  have hga : ∀ k, k < A.length → (P ++ A ++ x :: S).getD (P.length + k) default = A.getD k default := fun k hk => getD_seg (P := P) (B := A) (S := x :: S) rfl rfl hk
  have hbin : ∀ rec, ∃ s : Nat, P.length ≤ s ∧ s ≤ P.length + A.length ∧ (s = P.length ∨ le (A.getD (s - 1 - P.length) default) x) ∧ (s = P.length + A.length ∨ ¬ le (A.getD (s - P.length) default) x) ∧
      lp (fun s : List α × Int × Int => g_symMerge_l11 cmp rec m s.1 s.2.1 s.2.2) (P ++ A ++ x :: S, a, m) = some (P ++ A ++ x :: S, ((s : Nat) : Int)) := by
    intro rec
    rw [ha, hm]
    refine bin_lp (lo := P.length) (hi := P.length + A.length) (f := fun k => le (A.getD (k - P.length) default) x) ?_ ?_ _ _ _ (Nat.le_refl _) (Nat.le_refl _) (by omega) (Nat.le_refl _) (Or.inl rfl) (Or.inl rfl)
    · intro i j h1 h2 h3
      have hh : (i + j) / 2 - P.length < A.length := by omega
      have e1 : (P ++ A ++ x :: S).getD ((i + j) / 2) default = A.getD ((i + j) / 2 - P.length) default := by
        have := hga ((i + j) / 2 - P.length) hh
        rwa [show P.length + ((i + j) / 2 - P.length) = (i + j) / 2 by omega] at this
      obtain ⟨v, hc, hv⟩ := C.ans x _ hx (hA _ (getD_mem hh))
      refine ⟨!decide (v < 0), by simp only [Bool.not_eq_true', decide_eq_false_iff_not, hv, Classical.not_not], ?_⟩
      show g_symMerge_l11 cmp rec _ _ _ _ = _
      have hlt : decide ((i : Int) < (j : Int)) = true := by simpa using h2
      have hadd : ((i : Int) + (j : Int)) = ((i + j : Nat) : Int) := by omega
      have w1 : IntKind.i64.wrap ((((i + j) / 2 : Nat) : Int) + 1) = (((i + j) / 2 + 1 : Nat) : Int) := by rw [wr (by omega) (by omega)]; omega
      simp only [g_symMerge_l11, hlt, cond_true, hadd, half (s := i + j) (by omega), Int.toNat_natCast, e1, hgx, hc, Option.bind_some, w1]
      rw [asrt_pos (by omega), asrt_pos ⟨by omega, by simp only [List.length_append, List.length_cons]; omega⟩, asrt_pos ⟨by omega, by simp only [List.length_append, List.length_cons]; omega⟩]
      by_cases hneg : v < 0 <;> simp [hneg]
    · intro i
      show g_symMerge_l11 cmp rec _ _ _ _ = _
      have hlt : decide ((i : Int) < (i : Int)) = false := by simp
      simp only [g_symMerge_l11, hlt, cond_false]
  obtain ⟨s, s1, s2, s3, s4, s5⟩ := hbin (fun _ _ _ _ => none)
  obtain ⟨t, rfl⟩ : ∃ t, s = P.length + t := ⟨s - P.length, by omega⟩
  have ht : t ≤ A.length := by omega
  have hx1 : ∀ i, i < t → le (A.getD i default) x := fun i hi => by
    have h4 : le (A.getD (t - 1) default) x := by
      rcases s3 with h | h
      · omega
      · rwa [show P.length + t - 1 - P.length = t - 1 by omega] at h
    exact C.trans _ _ _ (hA _ (getD_mem (by omega))) (hA _ (getD_mem (by omega))) hx (srt_at C hA hs (show i ≤ t - 1 by omega) (by omega)) h4
  have hx2 : ∀ j, t ≤ j → j < A.length → le x (A.getD j default) := fun j hj hj' => by
    have h3 : le x (A.getD t default) := by
      rcases s4 with h | h
      · omega
      · rw [show P.length + t - P.length = t by omega] at h
        rcases C.total x _ hx (hA _ (getD_mem (show t < A.length by omega))) with h' | h'
        · exact h'
        · exact absurd h' h
    exact C.trans _ _ _ hx (hA _ (getD_mem (by omega))) (hA _ (getD_mem hj')) h3 (srt_at C hA hs hj hj')
  have hAs : A.take t ++ A.drop t = A := List.take_append_drop t A
  have hlt : (A.take t).length = t := by rw [List.length_take]; omega
  refine ⟨P ++ (A.take t ++ x :: A.drop t) ++ S, ⟨_, ?_, ?_, rfl⟩, fun rec => ?_⟩
  · have := List.perm_middle (a := x) (l₁ := A.take t) (l₂ := A.drop t)
    rw [hAs] at this
    exact this.trans (by simpa using (List.perm_append_comm (l₁ := [x]) (l₂ := A)))
  · simp only [Srt, List.pairwise_append, List.pairwise_cons]
    refine ⟨take_srt hs t, ⟨fun z hz => ?_, drop_srt hs t⟩, fun y hy z hz => ?_⟩
    · obtain ⟨j, j1, j2, rfl⟩ := mem_drop hz
      exact hx2 j j1 j2
    · obtain ⟨i, i1, i2, rfl⟩ := mem_take hy
      rcases List.mem_cons.1 hz with rfl | hz
      · exact hx1 i i1
      · obtain ⟨j, j1, j2, rfl⟩ := mem_drop hz
        exact srt_at C hA hs (by omega) j2
  · have h1 : decide (IntKind.i64.wrap (m - a) = 1) = false := by rw [wr (by omega) (by omega)]; simp; omega
    have h2 : decide (IntKind.i64.wrap (b - m) = 1) = true := by rw [wr (by omega) (by omega)]; simp; omega
    have s5' : lp (fun s : List α × Int × Int => g_symMerge_l11 cmp rec m s.1 s.2.1 s.2.2) (P ++ A ++ x :: S, a, m) = some (P ++ A ++ x :: S, ((P.length + t : Nat) : Int)) := s5
    simp only [g_symMerge_step, h1, cond_false, g_symMerge_j1, h2, cond_true, g_symMerge_h11, s5', Option.bind_some, g_symMerge_j8, g_symMerge_h10]
    have hmv := mv_down (cmp := cmp) (rec := rec) (e := ((P.length + t : Nat) : Int)) (x := x) (Q := P ++ A.take t) (by simp [hlt]) (A.drop t).length (A.drop t) S (P.length + A.length) rfl (by simp only [List.length_append, List.length_drop, hlt]; omega) (by simp only [List.length_append, List.length_cons, List.length_drop, hlt]; omega)
    have hd : P ++ A.take t ++ A.drop t ++ x :: S = P ++ A ++ x :: S := by
      have : P ++ A.take t ++ A.drop t ++ x :: S = P ++ (A.take t ++ A.drop t) ++ x :: S := by simp only [List.append_assoc]
      rw [this, hAs]
    rw [hd] at hmv
    rw [hm, hmv]
    simp [g_symMerge_j9]

theorem sym_mid (C : Cmp ok le cmp) {P A B S : List α} {a m b : Int} (hA : Oks ok A) (hB : Oks ok B) (hsA : Srt le A) (hsB : Srt le B) (hA2 : 2 ≤ A.length) (hB2 : 2 ≤ B.length)
    (ha : a = (P.length : Nat)) (hm : m = ((P.length + A.length : Nat) : Int)) (hb : b = ((P.length + A.length + B.length : Nat) : Int)) (hl : (P ++ A ++ B ++ S).length ≤ 1099511627776) :
    SymStep cmp le P A B S (P ++ A ++ B ++ S) a m b := by
  right
  have hl' := hl
  simp only [List.length_append] at hl'
  -- the middle
  obtain ⟨mid, hmid⟩ : ∃ mid : Nat, mid = (P.length + (P.length + A.length + B.length)) / 2 := ⟨_, rfl⟩
  have hga : ∀ k, P.length ≤ k → k < P.length + A.length → (P ++ A ++ B ++ S).getD k default = A.getD (k - P.length) default := fun k h1 h2 => getD_seg (P := P) (B := A) (S := B ++ S) (by simp) (by omega) (by omega)
  have hgb : ∀ k, P.length + A.length ≤ k → k < P.length + A.length + B.length → (P ++ A ++ B ++ S).getD k default = B.getD (k - (P.length + A.length)) default := fun k h1 h2 => getD_seg (P := P ++ A) (B := B) (S := S) (by simp) (by simp; omega) (by omega)
  -- the search
  obtain ⟨lo, hi, hlo, hhi, hbnd, hlohi, hrange, hinit⟩ : ∃ lo hi : Nat, (lo = P.length ∨ lo + (P.length + A.length + B.length) = mid + (P.length + A.length)) ∧ (hi = P.length + A.length ∨ hi = mid) ∧ (P.length ≤ lo ∧ mid + (P.length + A.length) ≤ lo + (P.length + A.length + B.length) ∧ hi ≤ P.length + A.length ∧ hi ≤ mid) ∧ lo ≤ hi ∧
      (∀ c, lo ≤ c → c < hi → P.length ≤ c ∧ c < P.length + A.length ∧ P.length + A.length ≤ mid + (P.length + A.length) - 1 - c ∧ mid + (P.length + A.length) - 1 - c < P.length + A.length + B.length) ∧
      (∀ rec, g_symMerge_j2 cmp rec (P ++ A ++ B ++ S) a m b = g_symMerge_j3 cmp rec (P ++ A ++ B ++ S) a m b (mid : Int) ((mid + (P.length + A.length) : Nat) : Int) (lo : Int) (hi : Int)) := by
    have hw0 : IntKind.i64.wrap (Int.fdiv (IntKind.u64.wrap (IntKind.i64.wrap (a + b))) (2 ^ (min (Int.toNat (1 : Int)) 64))) = ((mid : Nat) : Int) := by
      rw [show a + b = ((P.length + (P.length + A.length + B.length) : Nat) : Int) by omega, half (by omega), hmid]
    have hw1 : IntKind.i64.wrap ((mid : Int) + m) = ((mid + (P.length + A.length) : Nat) : Int) := by rw [wr (by omega) (by omega)]; omega
    by_cases hc : mid < P.length + A.length
    · refine ⟨mid + (P.length + A.length) - (P.length + A.length + B.length), mid, Or.inr (by omega), Or.inr (by omega), by omega, by omega, fun c h1 h2 => ⟨by omega, by omega, by omega, by omega⟩, fun rec => ?_⟩
      have hlt : decide ((mid : Int) < m) = true := by simp; omega
      simp only [g_symMerge_j2, hw0, hlt, cond_true, hw1]
      rw [asrt_pos (by omega), show IntKind.i64.wrap (((mid + (P.length + A.length) : Nat) : Int) - b) = ((mid + (P.length + A.length) - (P.length + A.length + B.length) : Nat) : Int) by rw [wr (by omega) (by omega)]; omega]
    · refine ⟨P.length, P.length + A.length, Or.inl rfl, Or.inl rfl, by omega, by omega, fun c h1 h2 => ⟨by omega, by omega, by omega, by omega⟩, fun rec => ?_⟩
      have hlt : decide ((mid : Int) < m) = false := by simp; omega
      simp only [g_symMerge_j2, hw0, hlt, cond_false, hw1]
      rw [asrt_pos (by omega)]
      rw [ha, hm]
  have hbin : ∀ rec, ∃ s : Nat, lo ≤ s ∧ s ≤ hi ∧ (s = lo ∨ le (A.getD (s - 1 - P.length) default) (B.getD (mid + (P.length + A.length) - 1 - (s - 1) - (P.length + A.length)) default)) ∧ (s = hi ∨ ¬ le (A.getD (s - P.length) default) (B.getD (mid + (P.length + A.length) - 1 - s - (P.length + A.length)) default)) ∧
      lp (fun s : List α × Int × Int => g_symMerge_l7 cmp rec a m b (mid : Int) ((mid + (P.length + A.length) : Nat) : Int) ((mid + (P.length + A.length) - 1 : Nat) : Int) s.1 s.2.1 s.2.2) (P ++ A ++ B ++ S, (lo : Int), (hi : Int)) = some (P ++ A ++ B ++ S, ((s : Nat) : Int)) := by
    intro rec
    refine bin_lp (lo := lo) (hi := hi) (f := fun k => le (A.getD (k - P.length) default) (B.getD (mid + (P.length + A.length) - 1 - k - (P.length + A.length)) default)) ?_ ?_ _ _ _ (Nat.le_refl _) (Nat.le_refl _) hlohi (Nat.le_refl _) (Or.inl rfl) (Or.inl rfl)
    · intro i j h1 h2 h3
      obtain ⟨r1, r2, r3, r4⟩ := hrange ((i + j) / 2) (by omega) (by omega)
      have e1 := hga ((i + j) / 2) r1 r2
      have e2 := hgb (mid + (P.length + A.length) - 1 - (i + j) / 2) r3 r4
      obtain ⟨v, hc, hv⟩ := C.ans (B.getD (mid + (P.length + A.length) - 1 - (i + j) / 2 - (P.length + A.length)) default) (A.getD ((i + j) / 2 - P.length) default) (hB _ (getD_mem (by omega))) (hA _ (getD_mem (by omega)))
      refine ⟨!decide (v < 0), by simp only [Bool.not_eq_true', decide_eq_false_iff_not, hv, Classical.not_not], ?_⟩
      show g_symMerge_l7 cmp rec _ _ _ _ _ _ _ _ _ = _
      have hlt : decide ((i : Int) < (j : Int)) = true := by simpa using h2
      have hadd : ((i : Int) + (j : Int)) = ((i + j : Nat) : Int) := by omega
      have w1 : IntKind.i64.wrap ((((i + j) / 2 : Nat) : Int) + 1) = (((i + j) / 2 + 1 : Nat) : Int) := by rw [wr (by omega) (by omega)]; omega
      have w2 : IntKind.i64.wrap (((mid + (P.length + A.length) - 1 : Nat) : Int) - (((i + j) / 2 : Nat) : Int)) = ((mid + (P.length + A.length) - 1 - (i + j) / 2 : Nat) : Int) := by rw [wr (by omega) (by omega)]; omega
      simp only [g_symMerge_l7, hlt, cond_true, hadd, half (s := i + j) (by omega), w1, w2, Int.toNat_natCast, e1, e2, hc, Option.bind_some]
      rw [asrt_pos (by omega), asrt_pos ⟨by omega, by simp only [List.length_append]; omega⟩, asrt_pos ⟨by omega, by simp only [List.length_append]; omega⟩]
      by_cases hneg : v < 0 <;> simp [hneg]
    · intro i
      show g_symMerge_l7 cmp rec _ _ _ _ _ _ _ _ _ = _
      have hlt : decide ((i : Int) < (i : Int)) = false := by simp
      simp only [g_symMerge_l7, hlt, cond_false]
  obtain ⟨s, s1, s2, s3, s4, s5⟩ := hbin (fun _ _ _ _ => none)
  have hsA0 : P.length ≤ s ∧ s ≤ P.length + A.length := by
    omega
  have hsB0 : P.length + A.length ≤ mid + (P.length + A.length) - s ∧ mid + (P.length + A.length) - s ≤ P.length + A.length + B.length := by
    omega
  obtain ⟨t, rfl⟩ : ∃ t, s = P.length + t := ⟨s - P.length, by omega⟩
  obtain ⟨u, hu⟩ : ∃ u, mid + (P.length + A.length) - (P.length + t) = P.length + A.length + u := ⟨mid + (P.length + A.length) - (P.length + t) - (P.length + A.length), by omega⟩
  have htA : t ≤ A.length := by omega
  have huB : u ≤ B.length := by omega
  have hmtu : mid = P.length + t + u := by omega
  have hAs : A.take t ++ A.drop t = A := List.take_append_drop t A
  have hBs : B.take u ++ B.drop u = B := List.take_append_drop u B
  have hlA1 : (A.take t).length = t := by rw [List.length_take]; omega
  have hlA2 : (A.drop t).length = A.length - t := by rw [List.length_drop]
  have hlB1 : (B.take u).length = u := by rw [List.length_take]; omega
  have hlB2 : (B.drop u).length = B.length - u := by rw [List.length_drop]
  refine ⟨A.take t, A.drop t, B.take u, B.drop u, hAs.symm, hBs.symm, by rw [hlA1, hlB1]; omega, by rw [hlA2, hlB2]; omega, ?_, fun rec => ?_⟩
  · -- who stands ahead of whom
    intro x hx y hy
    rcases List.mem_append.1 hx with hx | hx
    · obtain ⟨i, i1, i2, rfl⟩ := mem_take hx
      rcases List.mem_append.1 hy with hy | hy
      · obtain ⟨j, j1, j2, rfl⟩ := mem_drop hy
        exact srt_at C hA hsA (by omega) j2
      · obtain ⟨j, j1, j2, rfl⟩ := mem_drop hy
        have h3 : le (A.getD (t - 1) default) (B.getD u default) := by
          rcases s3 with h | h
          · rcases hlo with h' | h' <;> omega
          · rwa [show P.length + t - 1 - P.length = t - 1 by omega, show mid + (P.length + A.length) - 1 - (P.length + t - 1) - (P.length + A.length) = u by omega] at h
        exact C.trans _ _ _ (hA _ (getD_mem i2)) (hA _ (getD_mem (by omega))) (hB _ (getD_mem j2)) (srt_at C hA hsA (show i ≤ t - 1 by omega) (by omega))
          (C.trans _ _ _ (hA _ (getD_mem (by omega))) (hB _ (getD_mem (by omega))) (hB _ (getD_mem j2)) h3 (srt_at C hB hsB j1 j2))
    · obtain ⟨i, i1, i2, rfl⟩ := mem_take hx
      rcases List.mem_append.1 hy with hy | hy
      · obtain ⟨j, j1, j2, rfl⟩ := mem_drop hy
        have h3 : le (B.getD (u - 1) default) (A.getD t default) := by
          have h0 : ¬ le (A.getD t default) (B.getD (u - 1) default) := by
            rcases s4 with h | h
            · rcases hhi with h' | h' <;> omega
            · rwa [show P.length + t - P.length = t by omega, show mid + (P.length + A.length) - 1 - (P.length + t) - (P.length + A.length) = u - 1 by omega] at h
          rcases C.total _ _ (hA _ (getD_mem (show t < A.length by omega))) (hB _ (getD_mem (show u - 1 < B.length by omega))) with h | h
          · exact absurd h h0
          · exact h
        exact C.trans _ _ _ (hB _ (getD_mem i2)) (hB _ (getD_mem (by omega))) (hA _ (getD_mem j2)) (srt_at C hB hsB (show i ≤ u - 1 by omega) (by omega))
          (C.trans _ _ _ (hB _ (getD_mem (by omega))) (hA _ (getD_mem (by omega))) (hA _ (getD_mem j2)) h3 (srt_at C hA hsA j1 j2))
      · obtain ⟨j, j1, j2, rfl⟩ := mem_drop hy
        exact srt_at C hB hsB (by omega) j2
  · have h1 : decide (IntKind.i64.wrap (m - a) = 1) = false := by rw [wr (by omega) (by omega)]; simp; omega
    have h2 : decide (IntKind.i64.wrap (b - m) = 1) = false := by rw [wr (by omega) (by omega)]; simp; omega
    have s5' : lp (fun s : List α × Int × Int => g_symMerge_l7 cmp rec a m b (mid : Int) ((mid + (P.length + A.length) : Nat) : Int) ((mid + (P.length + A.length) - 1 : Nat) : Int) s.1 s.2.1 s.2.2) (P ++ A ++ B ++ S, (lo : Int), (hi : Int)) = some (P ++ A ++ B ++ S, ((P.length + t : Nat) : Int)) := s5
    have hp : IntKind.i64.wrap (((mid + (P.length + A.length) : Nat) : Int) - 1) = ((mid + (P.length + A.length) - 1 : Nat) : Int) := by rw [wr (by omega) (by omega)]; omega
    have he : IntKind.i64.wrap (((mid + (P.length + A.length) : Nat) : Int) - ((P.length + t : Nat) : Int)) = ((P.length + A.length + u : Nat) : Int) := by rw [wr (by omega) (by omega)]; omega
    simp only [g_symMerge_step, h1, cond_false, g_symMerge_j1, h2, hinit rec, g_symMerge_j3, g_symMerge_h7, hp, s5', Option.bind_some, g_symMerge_j4, he]
    -- the turn
    have hd : P ++ A ++ B ++ S = (P ++ A.take t) ++ A.drop t ++ B.take u ++ (B.drop u ++ S) := by
      have : (P ++ A.take t) ++ A.drop t ++ B.take u ++ (B.drop u ++ S) = P ++ (A.take t ++ A.drop t) ++ (B.take u ++ B.drop u) ++ S := by simp only [List.append_assoc]
      rw [this, hAs, hBs]
    have hrot : cond (decide (((P.length + t : Nat) : Int) < m) && decide (m < ((P.length + A.length + u : Nat) : Int)))
        ((gs_rotate (P ++ A ++ B ++ S) ((P.length + t : Nat) : Int) m ((P.length + A.length + u : Nat) : Int) cmp).bind fun x10 => g_symMerge_j5 cmp rec x10 a b (mid : Int) ((P.length + t : Nat) : Int) ((P.length + A.length + u : Nat) : Int))
        (g_symMerge_j5 cmp rec (P ++ A ++ B ++ S) a b (mid : Int) ((P.length + t : Nat) : Int) ((P.length + A.length + u : Nat) : Int))
        = g_symMerge_j5 cmp rec (P ++ A.take t ++ B.take u ++ A.drop t ++ B.drop u ++ S) a b (mid : Int) ((P.length + t : Nat) : Int) ((P.length + A.length + u : Nat) : Int) := by
      by_cases hc : t < A.length ∧ 0 < u
      · have : (decide (((P.length + t : Nat) : Int) < m) && decide (m < ((P.length + A.length + u : Nat) : Int))) = true := by simp; omega
        rw [this, cond_true, gs_rot (Q := P ++ A.take t) (X := A.drop t) (Y := B.take u) (R := B.drop u ++ S) hd (fun h => by rw [h] at hlA2; simp at hlA2; omega) (fun h => by rw [h] at hlB1; simp at hlB1; omega)
          (by simp only [List.length_append, hlA1]) (by simp only [List.length_append, hlA1, hlA2]; rw [hm]; congr 1; omega) (by simp only [List.length_append, hlA1, hlA2, hlB1]; congr 1; omega) hl]
        simp
      · have : (decide (((P.length + t : Nat) : Int) < m) && decide (m < ((P.length + A.length + u : Nat) : Int))) = false := by
          rw [Bool.eq_false_iff]; intro h; simp at h; apply hc; omega
        rw [this, cond_false, hd]
        congr 1
        by_cases h0 : t < A.length
        · have : u = 0 := by omega
          subst this; simp
        · have hz : A.drop t = [] := List.drop_eq_nil_of_le (by omega)
          simp only [hz, List.append_nil, List.append_assoc, List.nil_append]
    rw [hrot]
    have hne1 : decide (A.take t ≠ [] ∧ B.take u ≠ []) = (decide (a < ((P.length + t : Nat) : Int)) && decide (((P.length + t : Nat) : Int) < (mid : Int))) := by
      have q1 : A.take t ≠ [] ↔ 0 < t := by rw [← List.length_pos_iff, hlA1]
      have q2 : B.take u ≠ [] ↔ 0 < u := by rw [← List.length_pos_iff, hlB1]
      rw [Bool.eq_iff_iff]; simp [q1, q2]; omega
    have hne2 : decide (A.drop t ≠ [] ∧ B.drop u ≠ []) = (decide ((mid : Int) < ((P.length + A.length + u : Nat) : Int)) && decide (((P.length + A.length + u : Nat) : Int) < b)) := by
      have q1 : A.drop t ≠ [] ↔ t < A.length := by rw [← List.length_pos_iff, hlA2]; omega
      have q2 : B.drop u ≠ [] ↔ u < B.length := by rw [← List.length_pos_iff, hlB2]; omega
      rw [Bool.eq_iff_iff]; simp [q1, q2]; omega
    rw [hne1, hne2, hlA1, hlB1, hlA2]
    have f1 : a + ((t : Nat) : Int) = ((P.length + t : Nat) : Int) := by omega
    have f2 : a + ((t + u : Nat) : Int) = (mid : Int) := by omega
    have f3 : a + ((t + u + (A.length - t) : Nat) : Int) = ((P.length + A.length + u : Nat) : Int) := by omega
    rw [f1, f2, f3]
    simp only [g_symMerge_j5, g_symMerge_j6]
    cases (decide (a < ((P.length + t : Nat) : Int)) && decide (((P.length + t : Nat) : Int) < (mid : Int))) <;> simp only [cond_true, cond_false, Option.bind_some, Option.bind_fun_some]

end sym
end Go.Abs
namespace Go.Abs
open Go
variable {α : Type} [Inhabited α] {ok : α → Prop} {le : α → α → Prop} {cmp : α → α → Option Int}
theorem sym_one (C : Cmp ok le cmp) {P A B S : List α} {a m b : Int} (hA : A ≠ []) (hB : B ≠ []) (oA : Oks ok A) (oB : Oks ok B) (sA : Srt le A) (sB : Srt le B)
    (ha : a = (P.length : Nat)) (hm : m = ((P.length + A.length : Nat) : Int)) (hb : b = ((P.length + A.length + B.length : Nat) : Int)) (hl : (P ++ A ++ B ++ S).length ≤ 1099511627776) : SymStep cmp le P A B S (P ++ A ++ B ++ S) a m b := by
  by_cases h1 : A.length = 1
  · obtain ⟨x, rfl⟩ := List.length_eq_one_iff.1 h1
    left
    obtain ⟨r, h, h'⟩ := sym_first C (P := P) (S := S) (x := x) (oA x (by simp)) oB sB ha (by simpa using hm) (by simpa using hb) (by simpa using hl)
    exact ⟨r, h, fun rec => by have := h' rec; simpa using this⟩
  · by_cases h2 : B.length = 1
    · obtain ⟨x, rfl⟩ := List.length_eq_one_iff.1 h2
      left
      obtain ⟨r, h, h'⟩ := sym_last C (P := P) (S := S) (x := x) (oB x (by simp)) oA sA h1 ha hm (by simpa using hb) (by simpa using hl)
      exact ⟨r, h, fun rec => by have := h' rec; simpa using this⟩
    · have p1 := List.length_pos_iff.2 hA
      have p2 := List.length_pos_iff.2 hB
      exact sym_mid C oA oB sA sB (by omega) (by omega) ha hm hb hl

theorem sym_main (C : Cmp ok le cmp) : ∀ (k : Nat) (P A B S : List α) (a m b : Int), A ≠ [] → B ≠ [] → Oks ok A → Oks ok B → Srt le A → Srt le B →
    a = (P.length : Nat) → m = ((P.length + A.length : Nat) : Int) → b = ((P.length + A.length + B.length : Nat) : Int) → (P ++ A ++ B ++ S).length ≤ 1099511627776 →
    (∀ r, g_symMerge_at cmp k (P ++ A ++ B ++ S) a m b = some r → SymOk le P A B S r) ∧ (A.length + B.length ≤ k → ∃ r, g_symMerge_at cmp k (P ++ A ++ B ++ S) a m b = some r)
  | 0, P, A, B, S, a, m, b, hA, hB, oA, oB, sA, sB, ha, hm, hb, hl => by
    refine ⟨fun r h => by simp [g_symMerge_at] at h, fun h => ?_⟩
    exact absurd (List.length_eq_zero_iff.1 (by omega)) hA
  | k + 1, P, A, B, S, a, m, b, hA, hB, oA, oB, sA, sB, ha, hm, hb, hl => by
    have part : ∀ (P' A' B' S' : List α) (a' m' b' : Int), Oks ok A' → Oks ok B' → Srt le A' → Srt le B' → a' = (P'.length : Nat) → m' = ((P'.length + A'.length : Nat) : Int) → b' = ((P'.length + A'.length + B'.length : Nat) : Int) → (P' ++ A' ++ B' ++ S').length ≤ 1099511627776 →
        (∀ r, cond (decide (A' ≠ [] ∧ B' ≠ [])) (g_symMerge_at cmp k (P' ++ A' ++ B' ++ S') a' m' b') (some (P' ++ A' ++ B' ++ S')) = some r → SymOk le P' A' B' S' r) ∧
        (A'.length + B'.length ≤ k → ∃ r, cond (decide (A' ≠ [] ∧ B' ≠ [])) (g_symMerge_at cmp k (P' ++ A' ++ B' ++ S') a' m' b') (some (P' ++ A' ++ B' ++ S')) = some r) := by
      intro P' A' B' S' a' m' b' oA' oB' sA' sB' ha' hm' hb' hl'
      by_cases h : A' ≠ [] ∧ B' ≠ []
      · rw [decide_eq_true h, cond_true]
        exact sym_main C k P' A' B' S' a' m' b' h.1 h.2 oA' oB' sA' sB' ha' hm' hb' hl'
      · rw [decide_eq_false h, cond_false]
        refine ⟨fun r hr => ?_, fun _ => ⟨_, rfl⟩⟩
        cases hr
        refine ⟨A' ++ B', List.Perm.refl _, ?_, by simp⟩
        by_cases h1 : A' = []
        · subst h1; simpa using sB'
        · have h2 : B' = [] := Classical.byContradiction fun h2 => h ⟨h1, h2⟩
          subst h2; simpa using sA'
    rcases sym_one C hA hB oA oB sA sB ha hm hb hl with ⟨r, hr, hs⟩ | ⟨A1, A2, B1, B2, rfl, rfl, p1, p2, hcross, hs⟩
    · have e : g_symMerge_at cmp (k + 1) (P ++ A ++ B ++ S) a m b = some r := hs _
      exact ⟨fun r' h => by rw [e] at h; cases h; exact hr, fun _ => ⟨r, e⟩⟩
    · have e := hs (g_symMerge_at cmp k)
      rw [show g_symMerge_step cmp (g_symMerge_at cmp k) = g_symMerge_at cmp (k + 1) from rfl] at e
      have q1 := part P A1 B1 (A2 ++ B2 ++ S) a (a + (A1.length : Nat)) (a + ((A1.length + B1.length : Nat) : Int)) (fun x hx => oA x (by simp [hx])) (fun x hx => oB x (by simp [hx]))
        (List.pairwise_append.1 sA).1 (List.pairwise_append.1 sB).1 ha (by omega) (by omega) (by simp only [List.length_append] at hl ⊢; omega)
      have hd1 : P ++ A1 ++ B1 ++ A2 ++ B2 ++ S = P ++ A1 ++ B1 ++ (A2 ++ B2 ++ S) := by simp
      rw [hd1] at e
      have q2 : ∀ D1 : List α, D1.Perm (A1 ++ B1) → _ := fun D1 hD1 => part (P ++ D1) A2 B2 S (a + ((A1.length + B1.length : Nat) : Int)) (a + ((A1.length + B1.length + A2.length : Nat) : Int)) b (fun x hx => oA x (by simp [hx])) (fun x hx => oB x (by simp [hx]))
        (List.pairwise_append.1 sA).2.1 (List.pairwise_append.1 sB).2.1 (by have := hD1.length_eq; simp only [List.length_append] at this ⊢; omega) (by have := hD1.length_eq; simp only [List.length_append] at this ⊢; omega)
        (by have := hD1.length_eq; rw [hb]; simp only [List.length_append] at this ⊢; congr 1; omega) (by have := hD1.length_eq; simp only [List.length_append] at hl this ⊢; omega)
      refine ⟨fun r h => ?_, fun hk => ?_⟩
      · rw [e] at h
        obtain ⟨x, h1, h2⟩ := Option.bind_eq_some_iff.1 h
        obtain ⟨D1, d1, d2, rfl⟩ := q1.1 x h1
        have h2' : cond (decide (A2 ≠ [] ∧ B2 ≠ [])) (g_symMerge_at cmp k (P ++ D1 ++ A2 ++ B2 ++ S) (a + ((A1.length + B1.length : Nat) : Int)) (a + ((A1.length + B1.length + A2.length : Nat) : Int)) b) (some (P ++ D1 ++ A2 ++ B2 ++ S)) = some r := by
          have : P ++ D1 ++ (A2 ++ B2 ++ S) = P ++ D1 ++ A2 ++ B2 ++ S := by simp
          rw [this] at h2; exact h2
        obtain ⟨D2, f1, f2, rfl⟩ := (q2 D1 d1).1 r h2'
        refine ⟨D1 ++ D2, ?_, ?_, by simp⟩
        · refine (d1.append f1).trans ?_
          have : (B1 ++ (A2 ++ B2)).Perm (A2 ++ (B1 ++ B2)) := by
            have := (List.perm_append_comm (l₁ := B1) (l₂ := A2)).append_right B2
            simpa using this
          have := this.append_left A1
          simpa using this
        · rw [Srt, List.pairwise_append]
          exact ⟨d2, f2, fun x hx y hy => hcross x (d1.mem_iff.1 hx) y (f1.mem_iff.1 hy)⟩
      · simp only [List.length_append] at hk
        obtain ⟨x, hx⟩ := q1.2 (by omega)
        obtain ⟨D1, d1, d2, rfl⟩ := q1.1 x hx
        obtain ⟨r, hr⟩ := (q2 D1 d1).2 (by omega)
        refine ⟨r, ?_⟩
        rw [e, hx]
        have : P ++ D1 ++ (A2 ++ B2 ++ S) = P ++ D1 ++ A2 ++ B2 ++ S := by simp
        rw [this]; exact hr

theorem fixN_total {β : Type} {g : Nat → Option β} (h : ∃ k r, g k = some r) : ∃ r, fixN g = some r := by
  unfold fixN
  rw [dif_pos h]
  exact Classical.choose_spec h

theorem gs_sym (C : Cmp ok le cmp) {P A B S d : List α} {a m b : Int} (hd : d = P ++ A ++ B ++ S) (hA : A ≠ []) (hB : B ≠ []) (oA : Oks ok A) (oB : Oks ok B) (sA : Srt le A) (sB : Srt le B)
    (ha : a = (P.length : Nat)) (hm : m = ((P.length + A.length : Nat) : Int)) (hb : b = ((P.length + A.length + B.length : Nat) : Int)) (hl : d.length ≤ 1099511627776) :
    ∃ D, D.Perm (A ++ B) ∧ Srt le D ∧ gs_symMerge d a m b cmp = some (P ++ D ++ S) := by
  subst hd
  unfold gs_symMerge
  obtain ⟨r, hr⟩ := (sym_main C (A.length + B.length) P A B S a m b hA hB oA oB sA sB ha hm hb hl).2 (Nat.le_refl _)
  obtain ⟨r', hr'⟩ := fixN_total (g := fun k => g_symMerge_at cmp k (P ++ A ++ B ++ S) a m b) ⟨_, r, hr⟩
  obtain ⟨k, hk⟩ := fixN_some hr'
  obtain ⟨D, d1, d2, rfl⟩ := (sym_main C k P A B S a m b hA hB oA oB sA sB ha hm hb hl).1 r' hk
  exact ⟨D, d1, d2, hr'⟩

/-- Blocks, each in order. -/
inductive Blks {β : Type} (le : β → β → Prop) (n : Nat) : List β → Prop
  | last {l : List β} : l.length ≤ n → Srt le l → Blks le n l
  | cons {x l : List β} : x.length = n → Srt le x → Blks le n l → Blks le n (x ++ l)

theorem Blks.srt {β : Type} {le : β → β → Prop} {n : Nat} {l : List β} (h : Blks le n l) (hl : l.length ≤ n) : Srt le l := by
  cases h with
  | last _ h => exact h
  | cons hx hs hr =>
    rename_i x r
    have : r = [] := List.length_eq_zero_iff.1 (by simp only [List.length_append] at hl; omega)
    subst this; simpa using hs

theorem Blks.split {β : Type} {le : β → β → Prop} {n : Nat} {l : List β} (h : Blks le n l) (hl : n < l.length) : ∃ x r, l = x ++ r ∧ x.length = n ∧ Srt le x ∧ Blks le n r := by
  cases h with
  | last h' _ => omega
  | cons hx hs hr => exact ⟨_, _, rfl, hx, hs, hr⟩

theorem Blks.split2 {β : Type} {le : β → β → Prop} {n : Nat} {l : List β} (hn : 0 < n) (h : Blks le n l) (hl : 2 * n ≤ l.length) : ∃ x y r, l = x ++ y ++ r ∧ x.length = n ∧ y.length = n ∧ Srt le x ∧ Srt le y ∧ Blks le n r := by
  obtain ⟨x, r, rfl, h1, h2, h3⟩ := h.split (by omega)
  simp only [List.length_append] at hl
  by_cases he : r.length = n
  · exact ⟨x, r, [], by simp, h1, he, h2, h3.srt (by omega), Blks.last (by simp) List.Pairwise.nil⟩
  · obtain ⟨y, r', rfl, e1, e2, e3⟩ := h3.split (by omega)
    exact ⟨x, y, r', by simp, h1, e1, h2, e2, e3⟩

theorem Oks.perm {β : Type} {ok : β → Prop} {l l' : List β} (h : Oks ok l) (hp : l'.Perm l) : Oks ok l' := fun x hx => h x (hp.mem_iff.1 hx)

theorem stage1 (C : Cmp ok le cmp) {n1 : Int} : ∀ (n : Nat) (F G : List α), G.length ≤ n → Oks ok G → n1 = ((F.length + G.length : Nat) : Int) → (F ++ G).length ≤ 1099511627776 →
    ∃ G1 G2, (G1 ++ G2).Perm G ∧ G2.length < 20 ∧ (∀ H, H.length ≤ 20 → Srt le H → Blks le 20 (G1 ++ H)) ∧
      lp (fun s : List α × Int × Int => g_stable_l6 cmp n1 20 s.1 s.2.1 s.2.2) (F ++ G, ((F.length : Nat) : Int), ((F.length + 20 : Nat) : Int)) = some (F ++ G1 ++ G2, ((F.length + G1.length : Nat) : Int)) := by
  intro n
  induction n with
  | zero =>
    intro F G hn hG h1 hl
    refine ⟨[], G, by simp, by omega, fun H h2 h3 => Blks.last (by simpa using h2) (by simpa using h3), ?_⟩
    rw [lp_last (r := (F ++ G, ((F.length : Nat) : Int)))]
    · simp
    · have : decide (((F.length + 20 : Nat) : Int) ≤ n1) = false := by subst h1; simp; omega
      simp only [g_stable_l6, this, cond_false]
  | succ n ih =>
    intro F G hn hG h1 hl
    by_cases hg : G.length < 20
    · refine ⟨[], G, by simp, by omega, fun H h2 h3 => Blks.last (by simpa using h2) (by simpa using h3), ?_⟩
      rw [lp_last (r := (F ++ G, ((F.length : Nat) : Int)))]
      · simp
      · have : decide (((F.length + 20 : Nat) : Int) ≤ n1) = false := by subst h1; simp; omega
        simp only [g_stable_l6, this, cond_false]
    · obtain ⟨X, R, rfl, hX⟩ : ∃ X R, G = X ++ R ∧ X.length = 20 := ⟨G.take 20, G.drop 20, (List.take_append_drop _ _).symm, by rw [List.length_take]; omega⟩
      simp only [List.length_append] at hn hl h1 hg
      obtain ⟨D, d1, d2, d3⟩ := gs_ins C (P := F) (A := X) (T := R) (a := ((F.length : Nat) : Int)) (b := ((F.length + 20 : Nat) : Int)) rfl (by rw [hX]) (fun x hx => hG x (by simp [hx])) (by simp only [List.length_append]; omega)
      have hD : D.length = 20 := by rw [d1.length_eq, hX]
      obtain ⟨G1, G2, g1, g2, g3, g4⟩ := ih (F ++ D) R (by omega) (fun x hx => hG x (by simp [hx])) (by rw [h1]; simp only [List.length_append]; congr 1; omega) (by simp only [List.length_append]; omega)
      refine ⟨D ++ G1, G2, ?_, g2, fun H h2 h3 => ?_, ?_⟩
      · have := d1.append g1
        simpa using this
      · rw [List.append_assoc]; exact Blks.cons hD d2 (g3 H h2 h3)
      · have hb : (fun s : List α × Int × Int => g_stable_l6 cmp n1 20 s.1 s.2.1 s.2.2) (F ++ (X ++ R), ((F.length : Nat) : Int), ((F.length + 20 : Nat) : Int)) = some (.inl (F ++ D ++ R, (((F ++ D).length : Nat) : Int), (((F ++ D).length + 20 : Nat) : Int))) := by
          show g_stable_l6 cmp n1 20 _ _ _ = _
          have : decide (((F.length + 20 : Nat) : Int) ≤ n1) = true := by subst h1; simp; omega
          simp only [g_stable_l6, this, cond_true]
          rw [show F ++ (X ++ R) = F ++ X ++ R by simp, d3]
          simp only [Option.bind_some, List.length_append, hD]
          rw [wr (by omega) (by omega)]
          congr 1
        rw [lp_next hb, g4]
        simp only [List.length_append, List.append_assoc]
        congr 2
        congr 1; omega

theorem stage2 (C : Cmp ok le cmp) {n1 : Int} {bs : Nat} (hbs : 0 < bs) (hbs' : bs ≤ 1099511627776) : ∀ (n : Nat) (F G : List α), G.length ≤ n → Oks ok G → Blks le bs G → n1 = ((F.length + G.length : Nat) : Int) → (F ++ G).length ≤ 1099511627776 →
    ∃ G1 G2, (G1 ++ G2).Perm G ∧ G2.length < 2 * bs ∧ Blks le bs G2 ∧ (∀ H, H.length ≤ 2 * bs → Srt le H → Blks le (2 * bs) (G1 ++ H)) ∧
      lp (fun s : List α × Int × Int => g_stable_l5 cmp n1 (bs : Int) s.1 s.2.1 s.2.2) (F ++ G, ((F.length : Nat) : Int), ((F.length + 2 * bs : Nat) : Int)) = some (F ++ G1 ++ G2, ((F.length + G1.length : Nat) : Int)) := by
  have stop : ∀ (F G : List α), Blks le bs G → G.length < 2 * bs → n1 = ((F.length + G.length : Nat) : Int) → ∃ G1 G2, (G1 ++ G2).Perm G ∧ G2.length < 2 * bs ∧ Blks le bs G2 ∧ (∀ H, H.length ≤ 2 * bs → Srt le H → Blks le (2 * bs) (G1 ++ H)) ∧
      lp (fun s : List α × Int × Int => g_stable_l5 cmp n1 (bs : Int) s.1 s.2.1 s.2.2) (F ++ G, ((F.length : Nat) : Int), ((F.length + 2 * bs : Nat) : Int)) = some (F ++ G1 ++ G2, ((F.length + G1.length : Nat) : Int)) := by
    intro F G hG hg h1
    refine ⟨[], G, by simp, hg, hG, fun H h2 h3 => Blks.last (by simpa using h2) (by simpa using h3), ?_⟩
    rw [lp_last (r := (F ++ G, ((F.length : Nat) : Int)))]
    · simp
    · have : decide (((F.length + 2 * bs : Nat) : Int) ≤ n1) = false := by subst h1; simp; omega
      show g_stable_l5 cmp n1 _ _ _ _ = _
      simp only [g_stable_l5, this, cond_false]
  intro n
  induction n with
  | zero => intro F G hn _ hB h1 _; exact stop F G hB (by omega) h1
  | succ n ih =>
    intro F G hn hG hB h1 hl
    by_cases hg : G.length < 2 * bs
    · exact stop F G hB hg h1
    · obtain ⟨x, y, R, rfl, x1, y1, sx, sy, hR⟩ := hB.split2 hbs (by omega)
      simp only [List.length_append] at hn hl h1 hg
      obtain ⟨D, d1, d2, d3⟩ := gs_sym C (P := F) (A := x) (B := y) (S := R) (d := F ++ (x ++ y ++ R)) (a := ((F.length : Nat) : Int)) (m := ((F.length + bs : Nat) : Int)) (b := ((F.length + 2 * bs : Nat) : Int)) (by simp) (fun h => by rw [h] at x1; simp at x1; omega) (fun h => by rw [h] at y1; simp at y1; omega)
        (fun z hz => hG z (by simp [hz])) (fun z hz => hG z (by simp [hz])) sx sy rfl (by rw [x1]) (by rw [x1, y1]; congr 1; omega) (by simp only [List.length_append]; omega)
      have hD : D.length = 2 * bs := by rw [d1.length_eq]; simp only [List.length_append]; omega
      obtain ⟨G1, G2, g1, g2, g3, g4, g5⟩ := ih (F ++ D) R (by omega) (fun z hz => hG z (by simp [hz])) hR (by rw [h1]; simp only [List.length_append]; congr 1; omega) (by simp only [List.length_append]; omega)
      refine ⟨D ++ G1, G2, ?_, g2, g3, fun H h2 h3 => ?_, ?_⟩
      · have := d1.append g1
        simpa using this
      · rw [List.append_assoc]; exact Blks.cons hD d2 (g4 H h2 h3)
      · have hb : (fun s : List α × Int × Int => g_stable_l5 cmp n1 (bs : Int) s.1 s.2.1 s.2.2) (F ++ (x ++ y ++ R), ((F.length : Nat) : Int), ((F.length + 2 * bs : Nat) : Int)) = some (.inl (F ++ D ++ R, (((F ++ D).length : Nat) : Int), (((F ++ D).length + 2 * bs : Nat) : Int))) := by
          show g_stable_l5 cmp n1 _ _ _ _ = _
          have : decide (((F.length + 2 * bs : Nat) : Int) ≤ n1) = true := by subst h1; simp; omega
          have w1 : IntKind.i64.wrap (((F.length : Nat) : Int) + (bs : Int)) = ((F.length + bs : Nat) : Int) := by rw [wr (by omega) (by omega)]; omega
          have w2 : IntKind.i64.wrap (2 * (bs : Int)) = 2 * (bs : Int) := wr (by omega) (by omega)
          have w3 : IntKind.i64.wrap (((F.length + 2 * bs : Nat) : Int) + 2 * (bs : Int)) = ((F.length + 2 * bs + 2 * bs : Nat) : Int) := by rw [wr (by omega) (by omega)]; omega
          simp only [g_stable_l5, this, cond_true, w1, w2, w3, d3, Option.bind_some, List.length_append, hD]
        rw [lp_next hb, g5]
        simp only [List.length_append, List.append_assoc]
        congr 2
        congr 1; omega

theorem stage2_all (C : Cmp ok le cmp) {d : List α} {bs : Nat} (hbs : 0 < bs) (hbs' : bs < d.length) (ho : Oks ok d) (hB : Blks le bs d) (hl : d.length ≤ 1099511627776) :
    ∃ r, r.Perm d ∧ Blks le (2 * bs) r ∧ g_stable_l2 cmp ((d.length : Nat) : Int) d (bs : Int) = some (.inl (r, ((2 * bs : Nat) : Int))) := by
  obtain ⟨G1, G2, g1, g2, g3, g4, g5⟩ := stage2 C (n1 := ((d.length : Nat) : Int)) hbs (by omega) d.length [] d (Nat.le_refl _) ho hB (by simp) (by simpa using hl)
  have hlen := g1.length_eq
  simp only [List.length_append] at hlen
  have w2 : IntKind.i64.wrap (2 * (bs : Int)) = ((2 * bs : Nat) : Int) := by rw [wr (by omega) (by omega)]; omega
  have w4 : IntKind.i64.wrap ((bs : Int) * 2) = ((2 * bs : Nat) : Int) := by rw [wr (by omega) (by omega)]; omega
  have hlt : decide ((bs : Int) < ((d.length : Nat) : Int)) = true := by simp; omega
  simp only [List.nil_append, List.length_nil, Nat.zero_add, Int.natCast_zero] at g5
  have w1 : IntKind.i64.wrap (((G1.length : Nat) : Int) + (bs : Int)) = ((G1.length + bs : Nat) : Int) := by rw [wr (by omega) (by omega)]; omega
  by_cases hg : bs < G2.length
  · obtain ⟨x, y, rfl, x1, sx, hy⟩ := g3.split hg
    simp only [List.length_append] at g2 hg hlen
    have sy : Srt le y := hy.srt (by omega)
    have og : Oks ok (G1 ++ (x ++ y)) := ho.perm g1
    obtain ⟨D, d1, d2, d3⟩ := gs_sym C (P := G1) (A := x) (B := y) (S := []) (d := G1 ++ (x ++ y)) (a := ((G1.length : Nat) : Int)) (m := ((G1.length + bs : Nat) : Int)) (b := ((d.length : Nat) : Int)) (by simp) (fun h => by rw [h] at x1; simp at x1; omega) (fun h => by rw [h] at hg; simp at hg; omega)
      (fun z hz => og z (by simp [hz])) (fun z hz => og z (by simp [hz])) sx sy rfl (by rw [x1]) (by congr 1; omega) (by simp only [List.length_append]; omega)
    refine ⟨G1 ++ D, ?_, ?_, ?_⟩
    · exact (d1.append_left G1).trans g1
    · exact g4 D (by rw [d1.length_eq]; simp only [List.length_append]; omega) d2
    · have hc : decide (((G1.length + bs : Nat) : Int) < ((d.length : Nat) : Int)) = true := by simp; omega
      simp only [g_stable_l2, hlt, cond_true, w2, g_stable_h5, g5, Option.bind_some, g_stable_j3, w1, hc, d3, g_stable_j4, w4]
      simp
  · refine ⟨G1 ++ G2, g1, g4 G2 (by omega) (g3.srt (by omega)), ?_⟩
    have hc : decide (((G1.length + bs : Nat) : Int) < ((d.length : Nat) : Int)) = false := by simp; omega
    simp only [g_stable_l2, hlt, cond_true, w2, g_stable_h5, g5, Option.bind_some, g_stable_j3, w1, hc, cond_false, g_stable_j4, w4]

theorem stage2_lp (C : Cmp ok le cmp) : ∀ (n : Nat) (d : List α) (bs : Nat), d.length - bs ≤ n → 0 < bs → Oks ok d → Blks le bs d → d.length ≤ 1099511627776 →
    ∃ r, r.Perm d ∧ Srt le r ∧ lp (fun s : List α × Int => g_stable_l2 cmp ((d.length : Nat) : Int) s.1 s.2) (d, (bs : Int)) = some r := by
  have stop : ∀ (d : List α) (bs : Nat), d.length ≤ bs → Blks le bs d → ∃ r, r.Perm d ∧ Srt le r ∧ lp (fun s : List α × Int => g_stable_l2 cmp ((d.length : Nat) : Int) s.1 s.2) (d, (bs : Int)) = some r := by
    intro d bs h hB
    refine ⟨d, List.Perm.refl _, hB.srt h, lp_last ?_⟩
    show g_stable_l2 cmp _ _ _ = _
    have : decide ((bs : Int) < ((d.length : Nat) : Int)) = false := by simp; omega
    simp only [g_stable_l2, this, cond_false]
  intro n
  induction n with
  | zero => intro d bs hn _ _ hB _; exact stop d bs (by omega) hB
  | succ n ih =>
    intro d bs hn hbs ho hB hl
    by_cases h : d.length ≤ bs
    · exact stop d bs h hB
    · obtain ⟨r, r1, r2, r3⟩ := stage2_all C hbs (by omega) ho hB hl
      obtain ⟨r', e1, e2, e3⟩ := ih r (2 * bs) (by rw [r1.length_eq]; omega) (by omega) (ho.perm r1) r2 (by rw [r1.length_eq]; exact hl)
      rw [r1.length_eq] at e3
      refine ⟨r', e1.trans r1, e2, ?_⟩
      rw [lp_next (show (fun s : List α × Int => g_stable_l2 cmp ((d.length : Nat) : Int) s.1 s.2) (d, (bs : Int)) = _ from r3)]
      exact e3

/-- The sort tells the same elements, in order. -/
theorem stable_ok (C : Cmp ok le cmp) {d : List α} (ho : Oks ok d) (hl : d.length ≤ 1099511627776) : ∃ r, r.Perm d ∧ Srt le r ∧ gs_stable d ((d.length : Nat) : Int) cmp = some r := by
  obtain ⟨G1, G2, g1, g2, g3, g4⟩ := stage1 C (n1 := ((d.length : Nat) : Int)) d.length [] d (Nat.le_refl _) ho (by simp) (by simpa using hl)
  have hlen := g1.length_eq
  simp only [List.length_append] at hlen
  have og := ho.perm g1
  obtain ⟨D, d1, d2, d3⟩ := gs_ins C (P := G1) (A := G2) (T := []) (a := ((G1.length : Nat) : Int)) (b := ((d.length : Nat) : Int)) rfl (by congr 1; omega) (fun z hz => og z (by simp [hz])) (by simp only [List.length_append, List.length_nil]; omega)
  have hp : (G1 ++ D).Perm d := (d1.append_left G1).trans g1
  obtain ⟨r, r1, r2, r3⟩ := stage2_lp C (G1 ++ D).length (G1 ++ D) 20 (by omega) (by omega) (ho.perm hp) (g3 D (by rw [d1.length_eq]; omega) d2) (by rw [hp.length_eq]; exact hl)
  refine ⟨r, r1.trans hp, r2, ?_⟩
  simp only [List.nil_append, List.length_nil, Nat.zero_add, Int.natCast_zero] at g4
  unfold gs_stable g_stable_h6
  have g4' : lp (fun s : List α × Int × Int => g_stable_l6 cmp ((d.length : Nat) : Int) 20 s.1 s.2.1 s.2.2) (d, (0 : Int), (20 : Int)) = some (G1 ++ G2, ((G1.length : Nat) : Int)) := g4
  rw [g4']
  simp only [Option.bind_some, g_stable_j1]
  rw [show G1 ++ G2 = G1 ++ G2 ++ [] by simp, d3]
  simp only [Option.bind_some, g_stable_h2, List.append_nil]
  rw [hp.length_eq] at r3
  have r3' : lp (fun s : List α × Int => g_stable_l2 cmp ((d.length : Nat) : Int) s.1 s.2) (G1 ++ D, (20 : Int)) = some r := r3
  rw [r3']; rfl

end Go.Abs
namespace Go.Abs
open Go
def fairB (n : Int) : Bool := decide (n ≤ 1048576) && decide (-1048576 ≤ n)

theorem fair_eq (n : Int) : s_step_fair n = some (fairB n) := rfl

/-- May the jump not follow? -/
def badJ (last : Int) (j : api_Jump) : Bool := decide (j.At ≤ last) || decide (1125899906842624 ≤ j.At) || decide (j.Net = 0) || !fairB j.Net

def chk (last : Int) : List api_Jump → Bool
  | [] => true
  | j :: r => !badJ last j && chk j.At r

def mayB (f : List api_Jump) : Bool := decide (f.length ≤ 1024) && chk (-2) f

theorem May_body {f : List api_Jump} {i : Nat} {a : api_Jump} {last : Int} (ha : f[i]? = some a) (hl : f.length < 4611686018427387904) :
    step_May_l2 f (f.length : Nat) last i = some (if badJ last a then .inr (.inr false) else .inl (a.At, ((i + 1 : Nat) : Int))) := by
  obtain ⟨d1, d2, d3, d4⟩ := idx ha hl
  simp only [step_May_l2, d1, cond_true, asrt_pos d2, d3, d4, fair_eq]
  unfold badJ
  cases h : (decide (a.At ≤ last) || decide (1125899906842624 ≤ a.At) || decide (a.Net = 0)) <;> cases h2 : fairB a.Net <;> simp [gcall]

theorem chk_fold : ∀ (f : List api_Jump) (last : Int), foldE (fun last (j : api_Jump) => some (if badJ last j then .inr (.inr false) else .inl j.At)) (fun _ => (.inl () : Unit ⊕ Bool)) last f = some (if chk last f then .inl () else .inr false)
  | [], last => by simp [foldE, chk]
  | j :: r, last => by
    cases h : badJ last j
    · rw [foldE_next (s' := j.At) (by simp [h])]
      rw [chk_fold r j.At]
      simp [chk, h]
    · rw [foldE_last (x := .inr false) (by simp [h])]
      simp [chk, h]

theorem may_eq (f : List api_Jump) : s_step_May f = some (mayB f) := by
  unfold s_step_May mayB
  by_cases hl : f.length ≤ 1024
  · have h1 : decide ((1024 : Int) < ((f.length : Nat) : Int)) = false := by simp; omega
    rw [h1, cond_false]
    unfold step_May_h2
    have key := lp_list0 (l := f) (body := fun s : Int × Int => step_May_l2 f (f.length : Nat) s.1 s.2) (fun last i => (last, i)) _ _
      (fun i a s ha => by
        constructor
        · intro s' hs
          show step_May_l2 f (f.length : Nat) s i = _
          rw [May_body ha (by omega)]
          split at hs <;> simp_all
        · intro x hs
          show step_May_l2 f (f.length : Nat) s i = _
          rw [May_body ha (by omega)]
          split at hs <;> simp_all)
      (fun s => by show step_May_l2 f (f.length : Nat) s (f.length : Nat) = _; simp only [step_May_l2, idx_end, cond_false]) (chk_fold f (-2))
    rw [key]
    cases h : chk (-2) f <;> simp [step_May_j1, hl]
  · have h1 : decide ((1024 : Int) < ((f.length : Nat) : Int)) = true := by simp; omega
    rw [h1, cond_true]
    simp [hl]

theorem badJ_false {last : Int} {j : api_Jump} : badJ last j = false ↔ last < j.At ∧ j.At < 1125899906842624 ∧ j.Net ≠ 0 ∧ j.Net ≤ 1048576 ∧ -1048576 ≤ j.Net := by
  simp [badJ, fairB]
  omega

/-- Jumps that rise, above a place. -/
def Rise (last : Int) : List api_Jump → Prop
  | [] => True
  | j :: r => (last < j.At ∧ j.At < 1125899906842624 ∧ j.Net ≠ 0 ∧ j.Net ≤ 1048576 ∧ -1048576 ≤ j.Net) ∧ Rise j.At r

theorem chk_iff : ∀ {f : List api_Jump} {last : Int}, chk last f = true ↔ Rise last f
  | [], last => by simp [chk, Rise]
  | j :: r, last => by simp [chk, Rise, badJ_false, chk_iff]

theorem may_iff {f : List api_Jump} : mayB f = true ↔ f.length ≤ 1024 ∧ Rise (-2) f := by simp [mayB, chk_iff]

theorem Rise.above : ∀ {f : List api_Jump} {last : Int}, Rise last f → ∀ j ∈ f, last < j.At ∧ j.At < 1125899906842624 ∧ j.Net ≠ 0 ∧ j.Net ≤ 1048576 ∧ -1048576 ≤ j.Net
  | [], _, _, j, hj => by simp at hj
  | a :: r, last, h, j, hj => by
    rcases List.mem_cons.1 hj with rfl | hj
    · exact h.1
    · have := h.2.above j hj
      have h1 := h.1.1
      exact ⟨by omega, this.2⟩

/-- The value at a place. -/
def val (f : List api_Jump) (t : Int) : Int := (f.map fun j => if j.At ≤ t then j.Net else 0).sum

theorem val_nil (t : Int) : val [] t = 0 := rfl

theorem val_cons (j : api_Jump) (r : List api_Jump) (t : Int) : val (j :: r) t = (if j.At ≤ t then j.Net else 0) + val r t := by simp [val]

theorem val_append (f g : List api_Jump) (t : Int) : val (f ++ g) t = val f t + val g t := by simp [val]

theorem val_bound : ∀ {f : List api_Jump} {b : Int} (t : Int), 0 ≤ b → (∀ j ∈ f, j.Net ≤ b ∧ -b ≤ j.Net) → val f t ≤ b * f.length ∧ -(b * f.length) ≤ val f t
  | [], b, t, _, _ => by simp [val]
  | j :: r, b, t, hb, h => by
    obtain ⟨h1, h2⟩ := val_bound t hb (fun k hk => h k (List.mem_cons_of_mem _ hk))
    have h3 := h j (List.mem_cons_self ..)
    rw [val_cons]
    simp only [List.length_cons, Int.natCast_add, Int.natCast_one, Int.mul_add, Int.mul_one]
    split <;> omega

theorem val_above {f : List api_Jump} {t : Int} (h : ∀ j ∈ f, t < j.At) : val f t = 0 := by
  induction f with
  | nil => rfl
  | cons j r ih =>
    rw [val_cons, ih (fun k hk => h k (List.mem_cons_of_mem _ hk))]
    have := h j (List.mem_cons_self ..)
    rw [if_neg (by omega)]; rfl

theorem told_eq (f : List api_Jump) : s_step_told f = some (if mayB f then (f, 0) else ([], 7)) := by
  unfold s_step_told
  rw [may_eq]
  cases h : mayB f <;> simp

end Go.Abs
namespace Go.Abs
open Go
section both
variable {op : Int → Int → Option Int} {f g r : List api_Jump} {out : List api_Jump} {a b was t : Int} {j : api_Jump}
end both
/-- A change at a place, if there is one. -/
def emit (p v was : Int) : List api_Jump := if v = was then [] else [⟨p, v - was⟩]

/-- Places where values are told, and what changes there. -/
def toldL (was : Int) : List (Int × Int) → List api_Jump
  | [] => []
  | x :: r => emit x.1 x.2 was ++ toldL x.2 r

/-- Two lists gone through, place by place. -/
def merge (f g : List api_Jump) (a b : Int) : List (Int × Int × Int) :=
  match f, g with
  | [], [] => []
  | j :: f, [] => (j.At, a + j.Net, b) :: merge f [] (a + j.Net) b
  | [], k :: g => (k.At, a, b + k.Net) :: merge [] g a (b + k.Net)
  | j :: f, k :: g =>
    if j.At < k.At then (j.At, a + j.Net, b) :: merge f (k :: g) (a + j.Net) b
    else if k.At < j.At then (k.At, a, b + k.Net) :: merge (j :: f) g a (b + k.Net)
    else (j.At, a + j.Net, b + k.Net) :: merge f g (a + j.Net) (b + k.Net)

termination_by f.length + g.length
end Go.Abs
namespace Go.Abs
open Go
/-- What is made of two functions, ahead of the question whether there is room. -/
def comb (OP : Int → Int → Int) (f g : List api_Jump) : List api_Jump := toldL 0 ((merge f g 0 0).map fun x => (x.1, OP x.2.1 x.2.2))

def told (f : List api_Jump) : List api_Jump × Int := if mayB f then (f, 0) else ([], 7)

theorem told_eq' (f : List api_Jump) : s_step_told f = some (told f) := told_eq f

def two (OP : Int → Int → Int) (f g : List api_Jump) : List api_Jump × Int := if mayB f && mayB g then told (comb OP f g) else ([], 2)

end Go.Abs
namespace Go.Abs
open Go
theorem val_emit (p v was t : Int) : val (emit p v was) t = if p ≤ t then v - was else 0 := by
  unfold emit
  by_cases h : v = was
  · rw [if_pos h, val_nil, h]; split <;> omega
  · rw [if_neg h, val_cons, val_nil]; simp

theorem Rise.val0 {l t : Int} {f : List api_Jump} (h : Rise l f) (ht : t ≤ l) : val f t = 0 := val_above fun j hj => by have := (h.above j hj).1; omega

theorem may_val_bound {f : List api_Jump} (hf : mayB f = true) (t : Int) : val f t ≤ 1073741824 ∧ -1073741824 ≤ val f t := by
  obtain ⟨h1, h2⟩ := may_iff.1 hf
  have := val_bound t (b := 1048576) (by omega) (fun j hj => by have := h2.above j hj; omega) (f := f)
  omega

end Go.Abs
namespace Go.Abs
open Go
def nets (f : List api_Jump) : Int := (f.map api_Jump.Net).sum

theorem nets_cons (j : api_Jump) (f : List api_Jump) : nets (j :: f) = j.Net + nets f := by simp [nets]

/-- What is ahead of a place, and what is from it on. -/
def fore (t : Int) : List api_Jump → List api_Jump
  | [] => []
  | j :: r => if t ≤ j.At then [] else j :: fore t r

def aft (t : Int) : List api_Jump → List api_Jump
  | [] => []
  | j :: r => if t ≤ j.At then j :: r else aft t r

theorem fore_aft (t : Int) : ∀ f : List api_Jump, fore t f ++ aft t f = f
  | [] => rfl
  | j :: r => by
    unfold fore aft
    split
    · rfl
    · simp [fore_aft t r]

theorem fore_lt {t : Int} : ∀ {f : List api_Jump}, ∀ j ∈ fore t f, j.At < t
  | [], j, h => by simp [fore] at h
  | k :: r, j, h => by
    unfold fore at h
    split at h
    · simp at h
    · rcases List.mem_cons.1 h with rfl | h
      · omega
      · exact fore_lt j h

theorem aft_ge {t l : Int} : ∀ {f : List api_Jump}, Rise l f → ∀ j ∈ aft t f, t ≤ j.At
  | [], _, j, h => by simp [aft] at h
  | k :: r, hr, j, h => by
    unfold aft at h
    split at h
    · rcases List.mem_cons.1 h with rfl | h
      · assumption
      · have := (hr.2.above j h).1; omega
    · exact aft_ge hr.2 j h

theorem val_all {f : List api_Jump} {t : Int} (h : ∀ j ∈ f, j.At ≤ t) : val f t = nets f := by
  induction f with
  | nil => rfl
  | cons j r ih => rw [val_cons, nets_cons, if_pos (h j (List.mem_cons_self ..)), ih fun k hk => h k (List.mem_cons_of_mem _ hk)]

theorem fore_len (t : Int) : ∀ f : List api_Jump, (fore t f).length ≤ f.length
  | [] => by simp [fore]
  | j :: r => by
    unfold fore
    split
    · simp
    · simpa using fore_len t r

/-- Values ahead of the place come of what is ahead of it. -/
theorem val_fore {l t p : Int} {f : List api_Jump} (hf : Rise l f) (hp : p < t) : val f p = val (fore t f) p := by
  conv => lhs; rw [← fore_aft t f]
  rw [val_append, val_above (f := aft t f) (fun j hj => by have := aft_ge hf j hj; omega)]
  omega

theorem val_aft {l t p : Int} {f : List api_Jump} (hf : Rise l f) (hp : t ≤ p) : val f p = nets (fore t f) + val (aft t f) p := by
  conv => lhs; rw [← fore_aft t f]
  rw [val_append, val_all (fun j hj => by have := fore_lt j hj; omega)]

theorem nets_fore {l t : Int} {f : List api_Jump} (hf : Rise l f) : nets (fore t f) = val f (t - 1) := by
  rw [val_fore hf (p := t - 1) (t := t) (by omega), val_all (fun j hj => by have := fore_lt j hj; omega)]

theorem ahead_fold {t : Int} (f : List api_Jump) : ∀ (l v : Int) (out : List api_Jump), Rise l f → v ≤ 1048576 * (2048 - f.length) → -(1048576 * (2048 - f.length)) ≤ v → f.length ≤ 1024 →
    foldE (fun (s : List api_Jump × Int) (j : api_Jump) => some (if t ≤ j.At then .inr s else .inl (s.1 ++ [j], IntKind.i64.wrap (s.2 + j.Net)))) (fun s => s) (out, v) f = some (out ++ fore t f, v + nets (fore t f)) := by
  induction f with
  | nil => intro l v out _ _ _ _; simp [foldE, fore, nets]
  | cons j r ih =>
    intro l v out h h1 h2 hl
    simp only [List.length_cons] at h1 h2 hl
    have hj1 := h.1
    by_cases hj : t ≤ j.At
    · rw [foldE_last (x := (out, v)) (by simp [hj])]
      simp [fore, hj, nets]
    · have hw : IntKind.i64.wrap (v + j.Net) = v + j.Net := wrap_in (by omega) (by omega)
      rw [foldE_next (s' := (out ++ [j], v + j.Net)) (by simp [hj, hw])]
      rw [ih j.At (v + j.Net) (out ++ [j]) h.2 (by omega) (by omega) (by omega)]
      have : fore t (j :: r) = j :: fore t r := by simp [fore, hj]
      rw [this, nets_cons]
      simp [Int.add_assoc]

def aheadL (t : Int) (f : List api_Jump) : List api_Jump := fore t f ++ (if nets (fore t f) = 0 then [] else [⟨t, -nets (fore t f)⟩])

def ahead (f : List api_Jump) (t : Int) : List api_Jump × Int :=
  if mayB f then (if 1125899906842624 ≤ t then (f, 0) else told (aheadL t f)) else ([], 2)

theorem clone_eq {f : List api_Jump} (hl : f.length ≤ 1024) : s_slices_Clone_api_Jump_api_Jump f = some f := by
  unfold s_slices_Clone_api_Jump_api_Jump
  exact asrt_pos ⟨by omega, by omega⟩

theorem fore_bound {f : List api_Jump} (hf : mayB f = true) (t : Int) : nets (fore t f) ≤ 1073741824 ∧ -1073741824 ≤ nets (fore t f) := by
  rw [nets_fore (may_iff.1 hf).2]
  exact may_val_bound hf _

theorem ahead_eq (f : List api_Jump) (t : Int) : s_step_Ahead f t = some (ahead f t) := by
  unfold s_step_Ahead ahead
  rw [may_eq]
  simp only [Option.bind_some]
  cases h : mayB f
  · simp
  · obtain ⟨hl, hr⟩ := may_iff.1 h
    simp only [Bool.not_true, cond_false, if_true]
    by_cases ht : 1125899906842624 ≤ t
    · simp [ht, clone_eq hl]
    · rw [decide_eq_false ht, cond_false, if_neg ht]
      unfold step_Ahead_h3
      have key := lp_listI0 (l := f) (body := fun s : List api_Jump × Int × Int => step_Ahead_l3 t f (f.length : Nat) s.1 s.2.1 s.2.2) (fun (s : List api_Jump × Int) i => (s.1, s.2, i)) _ _ (fun i s => s.1.length = i)
        (fun i a s hi ha => by
          obtain ⟨d1, d2, d3, d4⟩ := idx ha (by omega)
          have hlt : i < f.length := (List.getElem?_eq_some_iff.1 ha).1
          have hb : step_Ahead_l3 t f (f.length : Nat) s.1 s.2 i = some (if t ≤ a.At then .inr s else .inl (s.1 ++ [a], IntKind.i64.wrap (s.2 + a.Net), ((i + 1 : Nat) : Int))) := by
            simp only [step_Ahead_l3, d1, cond_true, asrt_pos d2, d3, d4]
            rw [asrt_pos (by simp only [List.length_cons, List.length_nil]; omega)]
            by_cases h : t ≤ a.At <;> simp [h]
          by_cases hh : t ≤ a.At
          · refine ⟨fun s' hs => by simp [hh] at hs, fun x hs => ?_⟩
            simp [hh] at hs; subst hs
            show step_Ahead_l3 t f (f.length : Nat) s.1 s.2 i = _
            rw [hb, if_pos hh]
          · refine ⟨fun s' hs => ?_, fun x hs => by simp [hh] at hs⟩
            simp [hh] at hs; subst hs
            refine ⟨by simp [hi], ?_⟩
            show step_Ahead_l3 t f (f.length : Nat) s.1 s.2 i = _
            rw [hb, if_neg hh])
        (fun s _ => by show step_Ahead_l3 t f (f.length : Nat) s.1 s.2 (f.length : Nat) = _; simp only [step_Ahead_l3, idx_end, cond_false]) (s := ([], 0)) rfl (ahead_fold (t := t) f (-2) 0 [] hr (by omega) (by omega) hl)
      rw [key]
      have hb := fore_bound h t
      have hlen := fore_len t f
      have hw : IntKind.i64.wrap (0 - nets (fore t f)) = -nets (fore t f) := by rw [wrap_in (by omega) (by omega)]; omega
      simp only [Option.bind_some, List.nil_append, Int.zero_add, step_Ahead_j1, step_Ahead_j2, aheadL, hw, told_eq']
      by_cases hv : nets (fore t f) = 0
      · simp [hv]
      · rw [asrt_pos (by simp only [List.length_cons, List.length_nil]; omega)]
        simp [hv]

end Go.Abs
namespace Go.Abs
open Go
theorem rest_fold {t : Int} (f : List api_Jump) : ∀ (l v : Int) (k : Nat), Rise l f → v ≤ 1048576 * (2048 - f.length) → -(1048576 * (2048 - f.length)) ≤ v → f.length ≤ 1024 →
    foldE (fun (s : Int × Nat) (j : api_Jump) => some (if t ≤ j.At then .inr (s.1, ((s.2 : Nat) : Int)) else .inl (IntKind.i64.wrap (s.1 + j.Net), s.2 + 1))) (fun s => (s.1, ((s.2 : Nat) : Int))) (v, k) f = some (v + nets (fore t f), ((k + (fore t f).length : Nat) : Int)) := by
  induction f with
  | nil => intro l v k _ _ _ _; simp [foldE, fore, nets]
  | cons j r ih =>
    intro l v k h h1 h2 hl
    simp only [List.length_cons] at h1 h2 hl
    have hj1 := h.1
    by_cases hj : t ≤ j.At
    · rw [foldE_last (x := (v, ((k : Nat) : Int))) (by simp [hj])]
      simp [fore, hj, nets]
    · have hw : IntKind.i64.wrap (v + j.Net) = v + j.Net := wrap_in (by omega) (by omega)
      rw [foldE_next (s' := (v + j.Net, k + 1)) (by simp [hj, hw])]
      rw [ih j.At (v + j.Net) (k + 1) h.2 (by omega) (by omega) (by omega)]
      have : fore t (j :: r) = j :: fore t r := by simp [fore, hj]
      rw [this, nets_cons, List.length_cons]
      congr 2
      · omega
      · congr 1; omega

def restL (t : Int) (f : List api_Jump) : List api_Jump := (if nets (fore t f) = 0 then [] else [⟨-1, nets (fore t f)⟩]) ++ aft t f

def rest (f : List api_Jump) (t : Int) : List api_Jump × Int :=
  if mayB f then (if 1125899906842624 ≤ t then ([], 0) else if t ≤ -1 then (f, 0) else told (restL t f)) else ([], 2)

theorem drop_fore (t : Int) (f : List api_Jump) : List.drop (fore t f).length f = aft t f := by
  rw [show List.drop (fore t f).length f = List.drop (fore t f).length (fore t f ++ aft t f) by rw [fore_aft]]
  exact List.drop_left

theorem rest_eq (f : List api_Jump) (t : Int) : s_step_Rest f t = some (rest f t) := by
  unfold s_step_Rest rest
  rw [may_eq]
  simp only [Option.bind_some]
  cases h : mayB f
  · simp
  · obtain ⟨hl, hr⟩ := may_iff.1 h
    simp only [Bool.not_true, cond_false, if_true]
    by_cases ht : 1125899906842624 ≤ t
    · simp [ht]
    · rw [decide_eq_false ht, cond_false, if_neg ht]
      by_cases ht' : t ≤ -1
      · simp [ht', clone_eq hl]
      · rw [decide_eq_false ht', cond_false, if_neg ht']
        unfold step_Rest_h3
        have key := lp_listI0 (l := f) (body := fun s : Int × Int => step_Rest_l3 f t s.1 s.2) (fun (s : Int × Nat) i => (s.1, i)) _ _ (fun i s => s.2 = i)
          (fun i a s hi ha => by
            obtain ⟨d1, d2, d3, d4⟩ := idx ha (by omega)
            have hb : step_Rest_l3 f t s.1 i = some (if t ≤ a.At then .inr (s.1, ((s.2 : Nat) : Int)) else .inl (IntKind.i64.wrap (s.1 + a.Net), ((i + 1 : Nat) : Int))) := by
              simp only [step_Rest_l3, d1, Bool.true_and, d3, d4]
              rw [asrt_pos (fun _ => d2), asrt_pos d2, hi]
              by_cases h : t ≤ a.At
              · have : decide (a.At < t) = false := by simp; omega
                simp [h, this]
              · have : decide (a.At < t) = true := by simp; omega
                simp [h, this]
            by_cases hh : t ≤ a.At
            · refine ⟨fun s' hs => by simp [hh] at hs, fun x hs => ?_⟩
              simp [hh] at hs; subst hs
              show step_Rest_l3 f t s.1 i = _
              rw [hb, if_pos hh]
            · refine ⟨fun s' hs => ?_, fun x hs => by simp [hh] at hs⟩
              simp [hh] at hs; subst hs
              refine ⟨by simp [hi], ?_⟩
              show step_Rest_l3 f t s.1 i = _
              rw [hb, if_neg hh])
          (fun s hi => by
            show step_Rest_l3 f t s.1 (f.length : Nat) = _
            simp only [step_Rest_l3, idx_end, Bool.false_and, cond_false]
            rw [asrt_pos (fun h => by cases h), hi]) (s := (0, 0)) rfl (rest_fold (t := t) f (-2) 0 0 hr (by omega) (by omega) hl)
        rw [key]
        have hlen := fore_len t f
        have hal : (aft t f).length ≤ f.length := by
          have := congrArg List.length (fore_aft t f)
          simp only [List.length_append] at this
          omega
        have hto : ∀ n : Nat, Int.toNat (n : Int) = n := fun n => Int.toNat_natCast n
        simp only [Option.bind_some, Nat.zero_add, Int.zero_add, step_Rest_j1, step_Rest_j2, restL, hto, drop_fore, told_eq']
        by_cases hv : nets (fore t f) = 0
        · simp only [hv, decide_true, Bool.not_true, cond_false, if_true, List.nil_append]
          rw [asrt_pos ⟨by omega, by omega⟩, asrt_pos (by simp only [List.length_nil]; omega)]
        · simp only [hv, decide_false, Bool.not_false, cond_true, if_false]
          rw [asrt_pos (by simp), asrt_pos ⟨by omega, by omega⟩, asrt_pos (by simp only [List.length_cons, List.length_nil]; omega)]

end Go.Abs
namespace Go.Abs
open Go
/-- Jumps in form, above a place, whatever their heights. -/
def Up (last : Int) : List api_Jump → Prop
  | [] => True
  | j :: r => (last < j.At ∧ j.At < 1125899906842624 ∧ j.Net ≠ 0) ∧ Up j.At r

theorem Up.above : ∀ {f : List api_Jump} {last : Int}, Up last f → ∀ j ∈ f, last < j.At ∧ j.At < 1125899906842624 ∧ j.Net ≠ 0
  | [], _, _, j, hj => by simp at hj
  | a :: r, last, h, j, hj => by
    rcases List.mem_cons.1 hj with rfl | hj
    · exact h.1
    · have := h.2.above j hj
      have h1 := h.1.1
      exact ⟨by omega, this.2⟩

theorem Up.val0 {l t : Int} {f : List api_Jump} (h : Up l f) (ht : t ≤ l) : val f t = 0 := val_above fun j hj => by have := (h.above j hj).1; omega

theorem Up.weaken {a b : Int} {f : List api_Jump} (h : Up b f) (hab : a ≤ b) : Up a f := by
  cases f with
  | nil => trivial
  | cons j r => exact ⟨⟨by have := h.1.1; omega, h.1.2⟩, h.2⟩

theorem Rise.up : ∀ {f : List api_Jump} {last : Int}, Rise last f → Up last f
  | [], _, _ => trivial
  | _ :: _, _, h => ⟨⟨h.1.1, h.1.2.1, h.1.2.2.1⟩, h.2.up⟩

theorem Up.ext : ∀ {f g : List api_Jump} {last : Int}, Up last f → Up last g → (∀ t, last < t → t < 1125899906842624 → val f t = val g t) → f = g
  | [], [], _, _, _, _ => rfl
  | j :: r, [], last, hf, _, h => by
    have := h j.At hf.1.1 hf.1.2.1
    rw [val_cons, if_pos (Int.le_refl _), hf.2.val0 (Int.le_refl _), val_nil] at this
    exact absurd (by omega) hf.1.2.2
  | [], k :: s, last, _, hg, h => by
    have := h k.At hg.1.1 hg.1.2.1
    rw [val_cons, if_pos (Int.le_refl _), hg.2.val0 (Int.le_refl _), val_nil] at this
    exact absurd (by omega) hg.1.2.2
  | j :: r, k :: s, last, hf, hg, h => by
    have h1 := h j.At hf.1.1 hf.1.2.1
    have h2 := h k.At hg.1.1 hg.1.2.1
    rw [val_cons, if_pos (Int.le_refl _), hf.2.val0 (Int.le_refl _), val_cons] at h1
    rw [val_cons, val_cons k, if_pos (Int.le_refl _), hg.2.val0 (Int.le_refl _)] at h2
    have n1 := hf.1.2.2
    have n2 := hg.1.2.2
    have he : j.At = k.At := by
      rcases Int.lt_trichotomy j.At k.At with h3 | h3 | h3
      · rw [if_neg (by omega), hg.2.val0 (by omega)] at h1; omega
      · exact h3
      · rw [if_neg (by omega), hf.2.val0 (by omega)] at h2; omega
    rw [if_pos (by omega), hg.2.val0 (by omega)] at h1
    have hj : j = k := by
      obtain ⟨a, b⟩ := j; obtain ⟨c, d⟩ := k
      simp only at he h1
      simp only [Int.add_zero] at h1
      rw [he, h1]
    subst hj
    rw [hf.2.ext hg.2 (fun t ht ht' => by
      have := h t (by have := hf.1.1; omega) ht'
      rw [val_cons, val_cons] at this; omega)]

/-- Places that rise. -/
def Inc (last : Int) : List Int → Prop
  | [] => True
  | p :: r => (last < p ∧ p < 1125899906842624) ∧ Inc p r

theorem Inc.above : ∀ {ps : List Int} {last : Int}, Inc last ps → ∀ p ∈ ps, last < p ∧ p < 1125899906842624
  | [], _, _, j, hj => by simp at hj
  | a :: r, last, h, j, hj => by
    rcases List.mem_cons.1 hj with rfl | hj
    · exact h.1
    · have := h.2.above j hj
      have h1 := h.1.1
      exact ⟨by omega, this.2⟩

theorem toldL_up : ∀ {l : List (Int × Int)} {last was : Int}, Inc last (l.map Prod.fst) → Up last (toldL was l)
  | [], _, _, _ => trivial
  | x :: r, last, was, h => by
    simp only [toldL]
    have ih : Up x.1 (toldL x.2 r) := toldL_up h.2
    have h1 : last < x.1 ∧ x.1 < 1125899906842624 := h.1
    unfold emit
    split
    · exact ih.weaken (by omega)
    · exact ⟨⟨h1.1, h1.2, by simp only; omega⟩, ih⟩

theorem toldL_val {F : Int → Int} : ∀ {ps : List Int} {last : Int}, Inc last ps → (∀ s t, last ≤ s → s ≤ t → t < 1125899906842624 → (∀ p ∈ ps, ¬ (s < p ∧ p ≤ t)) → F s = F t) →
    ∀ t, last ≤ t → t < 1125899906842624 → val (toldL (F last) (ps.map fun p => (p, F p))) t = F t - F last
  | [], last, _, hF, t, h1, h2 => by
    have := hF last t (Int.le_refl _) h1 h2 (by simp)
    simp [toldL, val, this]
  | p :: r, last, hi, hF, t, h1, h2 => by
    simp only [List.map_cons, toldL]
    rw [val_append, val_emit]
    by_cases hp : p ≤ t
    · rw [if_pos hp, toldL_val (F := F) hi.2 (fun s t' hs hst ht' hn => hF s t' (by have := hi.1.1; omega) hst ht' (fun q hq => by
        rcases List.mem_cons.1 hq with rfl | hq
        · omega
        · exact hn q hq)) t hp h2]
      omega
    · have := hF last t (Int.le_refl _) h1 h2 (fun q hq => by
        rcases List.mem_cons.1 hq with rfl | hq
        · omega
        · have := (hi.2.above q hq).1; omega)
      rw [if_neg hp, Up.val0 (toldL_up (last := p) (by rw [List.map_map]; simpa [Function.comp_def] using hi.2)) (by omega)]
      omega

theorem may_up {f : List api_Jump} (h : mayB f = true) : Up (-2) f := (may_iff.1 h).2.up

/-- The places and the values: the list that is told has these values. -/
theorem toldL_is {F : Int → Int} (h2 : F (-2) = 0) {ps : List Int} (hi : Inc (-2) ps) (hF : ∀ s t, -2 ≤ s → s ≤ t → t < 1125899906842624 → (∀ p ∈ ps, ¬ (s < p ∧ p ≤ t)) → F s = F t) {h : List api_Jump} (hh : Up (-2) h) (hv : ∀ t, -2 < t → t < 1125899906842624 → val h t = F t) :
    toldL 0 (ps.map fun p => (p, F p)) = h := by
  refine (toldL_up (by rw [List.map_map]; simpa [Function.comp_def] using hi)).ext hh fun t h3 h4 => ?_
  have := toldL_val hi hF t (by omega) h4
  rw [h2] at this
  rw [this, hv t h3 h4]; omega

end Go.Abs
namespace Go.Abs
open Go
theorem may_nets {f : List api_Jump} (h : mayB f = true) : ∀ j ∈ f, j.Net ≤ 1048576 ∧ -1048576 ≤ j.Net := fun j hj => by have := (may_iff.1 h).2.above j hj; omega

/-- A list of places with one more. -/
def withL (t : Int) : List Int → List Int
  | [] => [t]
  | p :: r => if p = t then p :: r else if t < p then t :: p :: r else p :: withL t r

theorem withL_mem {t x : Int} : ∀ {ps : List Int}, x ∈ withL t ps ↔ x = t ∨ x ∈ ps
  | [] => by simp [withL]
  | p :: r => by
    unfold withL
    split
    · rename_i h; subst h; simp
    · split
      · simp
      · simp only [List.mem_cons, withL_mem (ps := r)]; constructor <;> (intro h; rcases h with h | h | h <;> simp [h])

theorem withL_inc {t : Int} : ∀ {ps : List Int} {last : Int}, Inc last ps → last < t → t < 1125899906842624 → Inc last (withL t ps)
  | [], last, _, h1, h2 => ⟨⟨h1, h2⟩, trivial⟩
  | p :: r, last, h, h1, h2 => by
    unfold withL
    split
    · exact h
    · split
      · rename_i h3 h4
        exact ⟨⟨h1, h2⟩, ⟨h4, h.1.2⟩, h.2⟩
      · exact ⟨h.1, withL_inc h.2 (by omega) h2⟩

/-- Places of a list of jumps, put to others. -/
def putL (ps : List Int) (f : List api_Jump) : List Int := f.foldl (fun ps j => withL j.At ps) ps

theorem putL_mem {x : Int} : ∀ {f : List api_Jump} {ps : List Int}, x ∈ putL ps f ↔ x ∈ ps ∨ ∃ j ∈ f, j.At = x
  | [], ps => by simp [putL]
  | k :: r, ps => by
    have := putL_mem (x := x) (f := r) (ps := withL k.At ps)
    unfold putL at this ⊢
    rw [List.foldl_cons, this, withL_mem]
    constructor
    · rintro ((h | h) | ⟨j, h, h'⟩)
      · exact Or.inr ⟨k, List.mem_cons_self .., h.symm⟩
      · exact Or.inl h
      · exact Or.inr ⟨j, List.mem_cons_of_mem _ h, h'⟩
    · rintro (h | ⟨j, h, h'⟩)
      · exact Or.inl (Or.inr h)
      · rcases List.mem_cons.1 h with rfl | h
        · exact Or.inl (Or.inl h'.symm)
        · exact Or.inr ⟨j, h, h'⟩

theorem putL_inc : ∀ {f : List api_Jump} {ps : List Int} {last : Int}, Inc last ps → (∀ j ∈ f, last < j.At ∧ j.At < 1125899906842624) → Inc last (putL ps f)
  | [], _, _, h, _ => h
  | k :: r, ps, last, h, hf => by
    have hk := hf k (List.mem_cons_self ..)
    exact putL_inc (f := r) (withL_inc h hk.1 hk.2) fun j hj => hf j (List.mem_cons_of_mem _ hj)

end Go.Abs
namespace Go.Abs
open Go
def mn (a b : Int) : Int := if b < a then b else a

def parts (v : Int) : List api_Jump → List Int
  | [] => []
  | j :: r => (v + j.Net) :: parts (v + j.Net) r

def leastL (f : List api_Jump) : Int := (f.map fun j => val f j.At).foldl mn (val f (-1))

theorem parts_eq : ∀ {f : List api_Jump} {l v : Int}, Rise l f → parts v f = f.map fun j => v + val f j.At
  | [], _, _, _ => rfl
  | j :: r, l, v, h => by
    simp only [parts, List.map_cons]
    rw [parts_eq h.2, val_cons, if_pos (Int.le_refl _), h.2.val0 (Int.le_refl _), Int.add_zero]
    congr 1
    apply List.map_congr_left
    intro k hk
    have := (h.2.above k hk).1
    rw [val_cons, if_pos (by omega)]; omega

theorem val_first {j : api_Jump} {r : List api_Jump} (h : Rise (-2) (j :: r)) : val (j :: r) (-1) = if j.At = -1 then j.Net else 0 := by
  have := h.1.1
  by_cases e : j.At = -1
  · rw [if_pos e, val_cons, if_pos (by omega), h.2.val0 (by omega)]; omega
  · rw [if_neg e, val_above]
    intro k hk
    rcases List.mem_cons.1 hk with rfl | hk
    · omega
    · have := (h.2.above k hk).1; omega

theorem least_loop {f : List api_Jump} (hf : mayB f = true) (m : Int) (hm : -1125899906842624 ≤ m ∧ m ≤ 1125899906842624) : step_Least_h3 0 m f (f.length : Nat) 0 = some ((f.map fun j => val f j.At).foldl mn m) := by
  obtain ⟨hl, hr⟩ := may_iff.1 hf
  unfold step_Least_h3
  rw [lp_suf0 (l := f) (body := fun s : Int × Int × Int => step_Least_l3 f (f.length : Nat) s.1 s.2.1 s.2.2) (fun (s : Int × Int) i => (s.1, s.2, i)) (fun s r => (parts s.1 r).foldl mn s.2)
    (fun s r => (∀ j ∈ r, j.Net ≤ 1048576 ∧ -1048576 ≤ j.Net) ∧ r.length ≤ 1024 ∧ s.1 ≤ 1048576 * (1024 - r.length) ∧ -(1048576 * (1024 - r.length)) ≤ s.1) (0, m) ?_ ?_ ?_]
  · simp only [Option.bind_some, step_Least_j2, parts_eq hr, Int.zero_add]
  · rintro i a r ⟨v, m⟩ ha ⟨h1, h2, h3, h4⟩
    obtain ⟨d1, d2, d3, d4⟩ := idx ha (by omega)
    have hj := h1 a (List.mem_cons_self ..)
    simp only [List.length_cons] at h2 h3 h4
    have hw : IntKind.i64.wrap (v + a.Net) = v + a.Net := wrap_in (by omega) (by omega)
    left
    refine ⟨(v + a.Net, mn m (v + a.Net)), ?_, ⟨fun j hj => h1 j (List.mem_cons_of_mem _ hj), by omega, by simp only; omega, by simp only; omega⟩, rfl⟩
    show step_Least_l3 f (f.length : Nat) v m i = _
    simp only [step_Least_l3, d1, cond_true, asrt_pos d2, d3, d4, hw, mn]
  · rintro ⟨v, m⟩ _
    show step_Least_l3 f (f.length : Nat) v m (f.length : Nat) = _
    simp only [step_Least_l3, idx_end, cond_false, parts, List.foldl_nil]
  · exact ⟨may_nets hf, hl, by simp only; omega, by simp only; omega⟩

theorem least_eq (f : List api_Jump) : s_step_Least f = some (if mayB f then leastL f else 0) := by
  unfold s_step_Least
  rw [may_eq]
  cases h : mayB f
  · simp
  · cases f with
    | nil => simp [leastL, val]
    | cons j r =>
      obtain ⟨hl, hr⟩ := may_iff.1 h
      have hne : decide (((List.length (j :: r) : Nat) : Int) = 0) = false := by simp; omega
      simp only [Option.bind_some, Bool.not_true, Bool.false_or, hne, cond_false, asrt_pos at_0, getD_0, if_true]
      have hj := hr.1
      unfold leastL
      rw [val_first hr]
      by_cases e : j.At = -1
      · simp only [e, decide_true, cond_true, if_true, step_Least_j1]
        exact least_loop h j.Net (by omega)
      · simp only [e, decide_false, cond_false, if_false, step_Least_j1]
        exact least_loop h 0 (by omega)

theorem val_const {s t : Int} (hst : s ≤ t) : ∀ {f : List api_Jump}, (∀ j ∈ f, ¬ (s < j.At ∧ j.At ≤ t)) → val f s = val f t
  | [], _ => rfl
  | j :: r, h => by
    have hj := h j (List.mem_cons_self ..)
    rw [val_cons, val_cons, val_const hst (fun k hk => h k (List.mem_cons_of_mem _ hk))]
    by_cases e : j.At ≤ s
    · rw [if_pos e, if_pos (by omega)]
    · rw [if_neg e, if_neg (by omega)]

theorem may_nil : mayB [] = true := by decide

theorem aheadL_val {f : List api_Jump} {t : Int} (hf : mayB f = true) (p : Int) : val (aheadL t f) p = if p < t then val f p else 0 := by
  unfold aheadL
  by_cases hp : p < t
  · rw [if_pos hp, val_fore (may_iff.1 hf).2 hp, val_append]
    split
    · simp [val]
    · rw [val_cons, val_nil]; simp; omega
  · rw [if_neg hp, val_append, val_all (fun j hj => by have := fore_lt j hj; omega)]
    split
    · rename_i h0; rw [h0]; simp [val]
    · rw [val_cons, val_nil, if_pos (show (⟨t, -nets (fore t f)⟩ : api_Jump).At ≤ p by show t ≤ p; omega)]; simp; omega

theorem restL_val {f : List api_Jump} {t : Int} (hf : mayB f = true) (p : Int) (hp : -1 ≤ p) : val (restL t f) p = val f (if p < t then t - 1 else p) := by
  have hr := (may_iff.1 hf).2
  unfold restL
  rw [val_append]
  have e1 : val (if nets (fore t f) = 0 then [] else [⟨-1, nets (fore t f)⟩]) p = nets (fore t f) := by
    split
    · rename_i h0; rw [h0]; rfl
    · rw [val_cons, val_nil, if_pos (show (⟨-1, nets (fore t f)⟩ : api_Jump).At ≤ p from hp)]; simp
  rw [e1]
  by_cases h : p < t
  · rw [if_pos h, val_above (f := aft t f) (fun j hj => by have := aft_ge hr j hj; omega), ← nets_fore hr]; omega
  · rw [if_neg h, val_aft hr (t := t) (by omega)]

end Go.Abs
namespace Go.Abs
open Go
theorem w1 : IntKind.i64.wrap (0 + 1) = 1 := by rw [wrap_in] <;> omega

theorem w2 : IntKind.i64.wrap (1 + 1) = 2 := by rw [wrap_in] <;> omega

theorem w3 : IntKind.i64.wrap (1 - 1) = 0 := by rw [wrap_in] <;> omega

theorem v0 : IntKind.i64.wrap 0 = 0 := by rw [wrap_in] <;> omega

theorem v1 : IntKind.i64.wrap 1 = 1 := by rw [wrap_in] <;> omega

theorem v2 : IntKind.i64.wrap 2 = 2 := by rw [wrap_in] <;> omega

theorem v3 : IntKind.i64.wrap (-1) = -1 := by rw [wrap_in] <;> omega

end Go.Abs
namespace Go.Abs
open Go
theorem told_len (f : List api_Jump) : (told f).1.length ≤ 1024 := by
  unfold told
  cases h : mayB f
  · simp
  · simpa using (may_iff.1 h).1

theorem ahead_len (f : List api_Jump) (t : Int) : (ahead f t).1.length ≤ 1024 := by
  unfold ahead
  split
  · split
    · exact (may_iff.1 (by assumption)).1
    · exact told_len _
  · simp

theorem rest_len (f : List api_Jump) (t : Int) : (rest f t).1.length ≤ 1024 := by
  unfold rest
  split
  · split
    · simp
    · split
      · exact (may_iff.1 (by assumption)).1
      · exact told_len _
  · simp

end Go.Abs
namespace Go.Abs
theorem ins_inst : @s_slices_insertionSortCmpFunc_api_Jump = @gs_insertionSort api_Jump _ := rfl

theorem step_inst : @slices_symMergeCmpFunc_api_Jump_step = @g_symMerge_step api_Jump _ := rfl

theorem at_inst (cmp) : ∀ k, @slices_symMergeCmpFunc_api_Jump_at cmp k = @g_symMerge_at api_Jump _ cmp k
  | 0 => rfl
  | k + 1 => by
    show slices_symMergeCmpFunc_api_Jump_step cmp _ = g_symMerge_step cmp _
    rw [at_inst cmp k, step_inst]

theorem sym_inst : @s_slices_symMergeCmpFunc_api_Jump = @gs_symMerge api_Jump _ := by
  funext d a m b cmp
  unfold s_slices_symMergeCmpFunc_api_Jump gs_symMerge
  simp only [at_inst]

theorem stable_inst : @s_slices_stableCmpFunc_api_Jump = @gs_stable api_Jump _ := by
  funext d n cmp
  unfold s_slices_stableCmpFunc_api_Jump gs_stable slices_stableCmpFunc_api_Jump_h6 g_stable_h6
  unfold slices_stableCmpFunc_api_Jump_l6 g_stable_l6 slices_stableCmpFunc_api_Jump_j1 g_stable_j1
  unfold slices_stableCmpFunc_api_Jump_h2 g_stable_h2 slices_stableCmpFunc_api_Jump_l2 g_stable_l2
  unfold slices_stableCmpFunc_api_Jump_h5 g_stable_h5 slices_stableCmpFunc_api_Jump_l5 g_stable_l5
  unfold slices_stableCmpFunc_api_Jump_j3 g_stable_j3
  rw [sym_inst, ins_inst]
  rfl

end Go.Abs
namespace Go.Abs
open Go
variable {α : Type} [Inhabited α]
noncomputable def g_IndexFunc_l2 (f1 : α → Option Bool) (s0 : (List α)) (t7 : Int) (t8 : Int) : Option ((Int) ⊕ (Unit ⊕ Int)) :=
  cond (decide (t8 < t7))
  (asrt (0 ≤ t8 ∧ t8 < ((List.length s0 : Nat) : Int)) <|
  (f1 (List.getD s0 (Int.toNat t8) default)).bind fun x2 =>
  cond x2
  (some (.inr (.inr t8)))
  (some (.inl (IntKind.i64.wrap (t8 + (1 : Int))))))
  (some (.inr (.inl ())))

theorem index_lp {l : List α} {f : α → Option Bool} {g : α → Bool} (hl : l.length ≤ 1099511627776) (hf : ∀ x ∈ l, f x = some (g x)) : ∀ (r : List α) (k : Nat), l.drop k = r → k ≤ l.length →
    ∃ x, lp (fun s => g_IndexFunc_l2 f l (l.length : Nat) s) (k : Int) = some x ∧ ((x = .inl () ∧ r.any g = false) ∨ (∃ i : Nat, x = .inr (i : Int) ∧ k ≤ i ∧ i < l.length ∧ r.any g = true ∧ g (l.getD i default) = true ∧ ∀ j, k ≤ j → j < i → g (l.getD j default) = false))
  | [], k, hd, hk => by
    have : k = l.length := by
      have := congrArg List.length hd
      simp only [List.length_drop, List.length_nil] at this; omega
    subst this
    refine ⟨.inl (), lp_last ?_, Or.inl ⟨rfl, rfl⟩⟩
    show g_IndexFunc_l2 f l _ _ = _
    simp only [g_IndexFunc_l2, idx_end, cond_false]
  | a :: r, k, hd, hk => by
    obtain ⟨h1, h2⟩ := drop_cons hd
    have hlt : k < l.length := (List.getElem?_eq_some_iff.1 h1).1
    obtain ⟨d1, d2, d3, d4⟩ := idx h1 (by omega)
    have hga : l.getD k default = a := by rw [Int.toNat_natCast] at d3; exact d3
    have hb : (fun s => g_IndexFunc_l2 f l (l.length : Nat) s) (k : Int) = some (if g a then .inr (.inr (k : Int)) else .inl ((k + 1 : Nat) : Int)) := by
      show g_IndexFunc_l2 f l _ _ = _
      simp only [g_IndexFunc_l2, d1, cond_true, asrt_pos d2, d3, d4, hf a (List.mem_of_getElem? h1), Option.bind_some]
      cases g a <;> simp
    cases hg : g a
    · rw [hg] at hb
      obtain ⟨x, e, hx⟩ := index_lp hl hf r (k + 1) h2 (by omega)
      refine ⟨x, by rw [lp_next hb]; exact e, ?_⟩
      rcases hx with ⟨rfl, h⟩ | ⟨i, rfl, h3, h4, h5, h6, h7⟩
      · exact Or.inl ⟨rfl, by simp [hg, h]⟩
      · refine Or.inr ⟨i, rfl, by omega, h4, by simp [h5], h6, fun j hj hj' => ?_⟩
        by_cases e : j = k
        · subst e; rw [hga, hg]
        · exact h7 j (by omega) hj'
    · rw [hg] at hb
      exact ⟨.inr (k : Int), lp_last hb, Or.inr ⟨k, rfl, Nat.le_refl _, hlt, by simp [hg], by rw [hga, hg], fun j h h' => by omega⟩⟩

end Go.Abs
namespace Go.Abs
open Go
theorem containsJ_eq {l : List api_Jump} {f : api_Jump → Option Bool} {g : api_Jump → Bool} (hl : l.length ≤ 1099511627776) (hf : ∀ x ∈ l, f x = some (g x)) : s_slices_ContainsFunc_api_Jump_api_Jump l f = some (l.any g) := by
  unfold s_slices_ContainsFunc_api_Jump_api_Jump s_slices_IndexFunc_api_Jump_api_Jump slices_IndexFunc_api_Jump_api_Jump_h2
  obtain ⟨x, e, hx⟩ := index_lp hl hf l 0 rfl (Nat.zero_le _)
  have e' : lp (fun s => slices_IndexFunc_api_Jump_api_Jump_l2 f l (l.length : Nat) s) 0 = some x := e
  rw [e']
  rcases hx with ⟨rfl, h⟩ | ⟨i, rfl, _, _, h, _⟩
  · simp [slices_IndexFunc_api_Jump_api_Jump_j1, h]
  · simp [h]

def unfair (j : api_Jump) : Bool := !fairB j.Net

def outT (j : api_Jump) : Bool := decide (j.At < -1) || decide (1125899906842624 < j.At)

/-- Jumps put together: by their places and values. -/
def normL (l : List api_Jump) : List api_Jump := toldL 0 ((putL [] (l.filter fun j => decide (j.At < 1125899906842624))).map fun p => (p, val l p))

def normF (l : List api_Jump) : List api_Jump × Int := if l.any unfair then ([], 2) else if l.any outT then ([], 13) else told (normL l)

def finP (p n : Int) : List api_Jump := if n ≠ 0 ∧ p < 1125899906842624 then [⟨p, n⟩] else []

def grpA (p n : Int) : List api_Jump → List api_Jump
  | [] => finP p n
  | j :: r => if j.At = p then grpA p (n + j.Net) r else finP p n ++ grpA j.At j.Net r

def grp : List api_Jump → List api_Jump
  | [] => []
  | j :: r => grpA j.At j.Net r

abbrev leAt (a b : api_Jump) : Prop := a.At ≤ b.At

theorem grpA_val {t : Int} (ht : t < 1125899906842624) : ∀ {r : List api_Jump} {p n : Int}, val (grpA p n r) t = (if p ≤ t then n else 0) + val r t
  | [], p, n => by
    unfold grpA finP
    split
    · rw [val_cons, val_nil]
    · rw [val_nil]; split <;> omega
  | j :: r, p, n => by
    unfold grpA
    split
    · rename_i h
      rw [grpA_val ht, val_cons, h]; split <;> omega
    · rw [val_append, grpA_val ht, val_cons]
      have : val (finP p n) t = if p ≤ t then n else 0 := by
        unfold finP
        split
        · rw [val_cons, val_nil]; simp
        · rw [val_nil]; split <;> omega
      rw [this]

theorem grp_val {t : Int} (ht : t < 1125899906842624) : ∀ {r : List api_Jump}, val (grp r) t = val r t
  | [] => rfl
  | j :: r => by unfold grp; rw [grpA_val ht, val_cons]

theorem grpA_up : ∀ {r : List api_Jump} {p n last : Int}, last < p → (∀ j ∈ r, p ≤ j.At) → Srt leAt r → Up last (grpA p n r)
  | [], p, n, last, h, _, _ => by
    unfold grpA finP
    split
    · rename_i h'; exact ⟨⟨h, h'.2, h'.1⟩, trivial⟩
    · trivial
  | j :: r, p, n, last, h, hp, hs => by
    have hj := hp j (by simp)
    have hs' := List.pairwise_cons.1 hs
    unfold grpA
    split
    · exact grpA_up h (fun k hk => hp k (by simp [hk])) hs'.2
    · have ih : Up p (grpA j.At j.Net r) := grpA_up (by omega) (fun k hk => hs'.1 k hk) hs'.2
      unfold finP
      split
      · rename_i h'; exact ⟨⟨h, h'.2, h'.1⟩, ih⟩
      · exact ih.weaken (by omega)

theorem grp_up {r : List api_Jump} (h : ∀ j ∈ r, -2 < j.At) (hs : Srt leAt r) : Up (-2) (grp r) := by
  cases r with
  | nil => trivial
  | cons j r =>
    have hs' := List.pairwise_cons.1 hs
    exact grpA_up (h j (by simp)) (fun k hk => hs'.1 k hk) hs'.2

theorem inner_lp {l out : List api_Jump} (hl : l.length ≤ 1099511627776) (hb : ∀ j ∈ l, j.Net ≤ 1048576 ∧ -1048576 ≤ j.Net) : ∀ (r : List api_Jump) (k : Nat) (p n : Int), l.drop k = r → k ≤ l.length → n ≤ 1048576 * k → -(1048576 * k) ≤ n →
    ∃ n' k', k ≤ k' ∧ k' ≤ l.length ∧ grpA p n r = finP p n' ++ grp (l.drop k') ∧ lp (fun s : List api_Jump × List api_Jump × Int × api_Jump => step_Norm_l4 s.1 s.2.1 s.2.2.1 s.2.2.2) (l, out, (k : Int), ⟨p, n⟩) = some (l, out, ((k' : Nat) : Int), ⟨p, n'⟩) ∧ (∀ j r', r = j :: r' → j.At = p → k < k')
  | [], k, p, n, hd, hk, _, _ => by
    have : k = l.length := by
      have := congrArg List.length hd
      simp only [List.length_drop, List.length_nil] at this; omega
    subst this
    refine ⟨n, l.length, Nat.le_refl _, Nat.le_refl _, by simp [grpA, grp], lp_last ?_, fun j r' h => by cases h⟩
    show step_Norm_l4 _ _ _ _ = _
    simp only [step_Norm_l4, idx_end, Bool.false_and, cond_false]
    exact asrt_pos (fun h => by cases h)
  | a :: r, k, p, n, hd, hk, h1, h2 => by
    obtain ⟨e1, e2⟩ := drop_cons hd
    have hlt : k < l.length := (List.getElem?_eq_some_iff.1 e1).1
    obtain ⟨d1, d2, d3, d4⟩ := idx e1 (by omega)
    have ha := hb a (List.mem_of_getElem? e1)
    by_cases h : a.At = p
    · have hw : IntKind.i64.wrap (n + a.Net) = n + a.Net := wrap_in (by omega) (by omega)
      obtain ⟨n', k', k1, k2, k3, k4, _⟩ := inner_lp hl hb r (k + 1) p (n + a.Net) e2 (by omega) (by omega) (by omega) (out := out)
      refine ⟨n', k', by omega, k2, by simp [grpA, h, k3], ?_, fun _ _ _ _ => by omega⟩
      have hb : (fun s : List api_Jump × List api_Jump × Int × api_Jump => step_Norm_l4 s.1 s.2.1 s.2.2.1 s.2.2.2) (l, out, (k : Int), ⟨p, n⟩) = some (.inl (l, out, ((k + 1 : Nat) : Int), ⟨p, n + a.Net⟩)) := by
        show step_Norm_l4 _ _ _ _ = _
        simp only [step_Norm_l4, d1, Bool.true_and, d3, d4, h, decide_true, cond_true, hw]
        rw [asrt_pos (fun _ => d2), asrt_pos d2]
      rw [lp_next hb, k4]
    · refine ⟨n, k, Nat.le_refl _, hk, ?_, lp_last ?_, fun j r' he hp => ?_⟩
      · rw [hd]; simp [grpA, h, grp]
      · show step_Norm_l4 _ _ _ _ = _
        simp only [step_Norm_l4, d1, Bool.true_and, d3, h, decide_false, cond_false]
        exact asrt_pos (fun _ => d2)
      · cases he; exact absurd hp h

theorem outer_lp {l : List api_Jump} (hl : l.length ≤ 1099511627776) (hb : ∀ j ∈ l, j.Net ≤ 1048576 ∧ -1048576 ≤ j.Net) : ∀ (m k : Nat) (out : List api_Jump), l.length - k ≤ m → k ≤ l.length → out.length ≤ k →
    lp (fun s : List api_Jump × List api_Jump × Int => step_Norm_l2 s.1 s.2.1 s.2.2) (l, out, (k : Int)) = some (out ++ grp (l.drop k)) := by
  have stop : ∀ out, lp (fun s : List api_Jump × List api_Jump × Int => step_Norm_l2 s.1 s.2.1 s.2.2) (l, out, ((l.length : Nat) : Int)) = some (out ++ grp (l.drop l.length)) := by
    intro out
    refine lp_last ?_
    show step_Norm_l2 _ _ _ = _
    simp only [step_Norm_l2, idx_end, cond_false]
    simp [grp]
  intro m
  induction m with
  | zero =>
    intro k out hm hk _
    have : k = l.length := by omega
    subst this; exact stop out
  | succ m ih =>
    intro k out hm hk ho
    by_cases he : k = l.length
    · subst he; exact stop out
    · have hlt : k < l.length := by omega
      have hd : l.drop k = l[k] :: l.drop (k + 1) := List.drop_eq_getElem_cons hlt
      obtain ⟨d1, d2, d3, d4⟩ := idx (List.getElem?_eq_getElem hlt) (by omega)
      obtain ⟨n', k', k1, k2, k3, k4, k5⟩ := inner_lp hl hb (l.drop k) k l[k].At 0 rfl hk (by omega) (by omega) (out := out)
      have hk' := k5 _ _ hd rfl
      have hbod : (fun s : List api_Jump × List api_Jump × Int => step_Norm_l2 s.1 s.2.1 s.2.2) (l, out, (k : Int)) = some (.inl (l, out ++ finP l[k].At n', ((k' : Nat) : Int))) := by
        show step_Norm_l2 _ _ _ = _
        simp only [step_Norm_l2, d1, cond_true, asrt_pos d2, d3, step_Norm_h4, k4, Option.bind_some, step_Norm_j3]
        unfold finP
        by_cases c : n' ≠ 0 ∧ l[k].At < 1125899906842624
        · have hc : (!decide (n' = 0) && decide (l[k].At < 1125899906842624)) = true := by simp [c]
          rw [hc, cond_true, if_pos c, asrt_pos (by simp only [List.length_cons, List.length_nil]; omega)]
        · have hc : (!decide (n' = 0) && decide (l[k].At < 1125899906842624)) = false := by
            rw [Bool.eq_false_iff]; intro h; apply c; simpa using h
          rw [hc, cond_false, if_neg c]; simp
      have hfl : (finP l[k].At n').length ≤ 1 := by unfold finP; split <;> simp
      rw [lp_next hbod, ih k' _ (by omega) k2 (by simp only [List.length_append]; omega)]
      have hg : grp (l.drop k) = grpA l[k].At 0 (l.drop k) := by rw [hd]; simp [grp, grpA]
      rw [hg, k3]; simp

theorem cmpJ_eq (a b : api_Jump) : s_step_Norm_3 a b = some (if a.At < b.At then -1 else if b.At < a.At then 1 else 0) := by
  unfold s_step_Norm_3 s_cmp_Compare_int s_cmp_isNaN_int
  by_cases h1 : a.At < b.At
  · simp [h1]
  · by_cases h2 : b.At < a.At <;> simp [h1, h2]

theorem cmpJ : Cmp (fun _ => True) leAt (fun y0 y1 => s_step_Norm_3 y0 y1) where
  ans x y _ _ := ⟨_, cmpJ_eq x y, by unfold leAt; split <;> (try split) <;> omega⟩
  trans x y z _ _ _ h1 h2 := Int.le_trans h1 h2
  total x y _ _ := Int.le_total x.At y.At

theorem sortJ {l : List api_Jump} (hl : l.length ≤ 1099511627776) : ∃ r, r.Perm l ∧ Srt leAt r ∧ s_slices_SortStableFunc_api_Jump_api_Jump l (fun y0 y1 => s_step_Norm_3 y0 y1) = some r := by
  obtain ⟨r, r1, r2, r3⟩ := stable_ok cmpJ (d := l) (fun _ _ => trivial) hl
  refine ⟨r, r1, r2, ?_⟩
  unfold s_slices_SortStableFunc_api_Jump_api_Jump
  rw [stable_inst, r3]; rfl

theorem val_perm {f g : List api_Jump} (h : f.Perm g) (t : Int) : val f t = val g t := by
  induction h with
  | nil => rfl
  | cons x _ ih => rw [val_cons, val_cons, ih]
  | swap x y l => rw [val_cons, val_cons, val_cons, val_cons]; omega
  | trans _ _ ih1 ih2 => rw [ih1, ih2]

theorem any_unfair {l : List api_Jump} (h : l.any unfair = false) : ∀ j ∈ l, j.Net ≤ 1048576 ∧ -1048576 ≤ j.Net := by
  intro j hj
  have := List.any_eq_false.1 h j hj
  simp [unfair, fairB] at this
  omega

theorem any_outT {l : List api_Jump} (h : l.any outT = false) : ∀ j ∈ l, -2 < j.At ∧ j.At ≤ 1125899906842624 := by
  intro j hj
  have := List.any_eq_false.1 h j hj
  simp [outT] at this
  omega

theorem normL_inc {l : List api_Jump} (ht : ∀ j ∈ l, -2 < j.At) : Inc (-2) (putL [] (l.filter fun j => decide (j.At < 1125899906842624))) :=
  putL_inc (ps := []) (show Inc (-2) [] from trivial) fun j hj => by
    obtain ⟨h1, h2⟩ := List.mem_filter.1 hj
    exact ⟨ht j h1, by simpa using h2⟩

theorem normL_is {l h : List api_Jump} (ht : ∀ j ∈ l, -2 < j.At) (hh : Up (-2) h) (hv : ∀ t, -2 < t → t < 1125899906842624 → val h t = val l t) : normL l = h := by
  refine toldL_is (F := val l) (val_above fun j hj => ht j hj) (normL_inc ht) ?_ hh hv
  intro s t _ hst h2 hn
  exact val_const hst fun j hj hc => hn j.At (putL_mem.2 (Or.inr ⟨j, List.mem_filter.2 ⟨hj, by simp; omega⟩, rfl⟩)) hc

theorem norm_eq {l : List api_Jump} (hl : l.length ≤ 1099511627776) : s_step_Norm l = some (normF l) := by
  unfold s_step_Norm normF
  rw [containsJ_eq (g := unfair) hl (fun x _ => by simp [s_step_Norm_1, fair_eq, unfair])]
  simp only [Option.bind_some]
  cases h1 : l.any unfair
  · rw [containsJ_eq (f := fun y0 => s_step_Norm_2 y0) (g := outT) hl (fun x _ => rfl)]
    simp only [cond_false, Option.bind_some, Bool.false_eq_true, if_false]
    cases h2 : l.any outT
    · simp only [cond_false, Bool.false_eq_true, if_false]
      have hc : s_slices_Clone_api_Jump_api_Jump l = some l := by unfold s_slices_Clone_api_Jump_api_Jump; exact asrt_pos ⟨by omega, by omega⟩
      obtain ⟨r, r1, r2, r3⟩ := sortJ hl
      rw [hc]
      simp only [Option.bind_some]
      rw [r3]
      simp only [Option.bind_some, step_Norm_h2]
      have hlr : r.length ≤ 1099511627776 := by rw [r1.length_eq]; exact hl
      have := outer_lp hlr (fun j hj => any_unfair h1 j (r1.mem_iff.1 hj)) r.length 0 [] (by omega) (by omega) (by simp)
      simp only [Int.natCast_zero, List.drop_zero, List.nil_append] at this
      rw [this]
      simp only [Option.bind_some, step_Norm_j1, told_eq']
      rw [normL_is (fun j hj => (any_outT h2 j hj).1) (grp_up (fun j hj => (any_outT h2 j (r1.mem_iff.1 hj)).1) r2) (fun t _ ht => by rw [grp_val ht, val_perm r1])]
    · simp
  · simp

end Go.Abs
namespace Go.Abs
open Go
theorem strEq_iff (x y : ByteArray) : strEq x y = decide (x = y) := by
  unfold strEq
  rw [ByteArray.toList_eq, ByteArray.toList_eq]
  by_cases h : x = y
  · simp [h]
  · have : x.data.toList ≠ y.data.toList := by
      intro he
      apply h
      cases x; cases y
      congr 1
      exact Array.toList_inj.1 he
    have h2 : (x.data.toList == y.data.toList) = false := by simpa using this
    rw [h2]; simp [h]

theorem veq (a b : api_Value) : ((decide (a.Kind = b.Kind)) && ((decide (a.Num = b.Num)) && ((strEq a.Text b.Text) && true))) = decide (a = b) := by
  rw [strEq_iff]
  obtain ⟨a1, a2, a3⟩ := a
  obtain ⟨b1, b2, b3⟩ := b
  by_cases h1 : a1 = b1 <;> by_cases h2 : a2 = b2 <;> by_cases h3 : a3 = b3 <;> simp [h1, h2, h3]

def numB (v : api_Value) : Bool := decide (v.Kind = 1) && strEq v.Text (⟨#[]⟩ : ByteArray)

def wordB (v : api_Value) : Bool := ((decide (v.Kind = 2)) && (decide (v.Num = 0))) && (decide (((ByteArray.size v.Text : Nat) : Int) ≤ 64))

def vMay (v : api_Value) : Bool := numB v || wordB v

def rMay (r : List api_Value) : Bool := decide (r.length ≤ 8) && r.all vMay

theorem of_eq (v : api_Value) : s_value_of v = some (if numB v then (.k_number v.Num, true) else if wordB v then (.k_words v.Text, true) else (.none_, false)) := by
  unfold s_value_of numB wordB
  cases (decide (v.Kind = 1) && strEq v.Text (⟨#[]⟩ : ByteArray)) <;> cases (((decide (v.Kind = 2)) && (decide (v.Num = 0))) && (decide (((ByteArray.size v.Text : Nat) : Int) ≤ 64))) <;> rfl

theorem vMay_eq (v : api_Value) : s_value_May v = some (vMay v) := by
  unfold s_value_May vMay
  rw [of_eq]
  cases numB v <;> cases wordB v <;> rfl

theorem containsV_eq {l : List api_Value} {f : api_Value → Option Bool} {g : api_Value → Bool} (hl : l.length ≤ 1099511627776) (hf : ∀ x ∈ l, f x = some (g x)) : s_slices_ContainsFunc_api_Row_api_Value l f = some (l.any g) := by
  unfold s_slices_ContainsFunc_api_Row_api_Value s_slices_IndexFunc_api_Row_api_Value slices_IndexFunc_api_Row_api_Value_h2
  obtain ⟨x, e, hx⟩ := index_lp hl hf l 0 rfl (Nat.zero_le _)
  have e' : lp (fun s => slices_IndexFunc_api_Row_api_Value_l2 f l (l.length : Nat) s) 0 = some x := e
  rw [e']
  rcases hx with ⟨rfl, h⟩ | ⟨i, rfl, _, _, h, _⟩
  · simp [slices_IndexFunc_api_Row_api_Value_j1, h]
  · simp [h]

theorem rMay_eq (r : List api_Value) : s_row_May r = some (rMay r) := by
  unfold s_row_May rMay
  by_cases h : r.length ≤ 8
  · have h1 : decide ((8 : Int) < ((r.length : Nat) : Int)) = false := by simp; omega
    rw [h1, cond_false, containsV_eq (g := fun v => !vMay v) (by omega) (fun x _ => by simp [s_row_May_1, vMay_eq])]
    simp only [Option.bind_some, h, decide_true, Bool.true_and]
    congr 1
    rw [List.all_eq_not_any_not]
  · have h1 : decide ((8 : Int) < ((r.length : Nat) : Int)) = true := by simp; omega
    rw [h1, cond_true]
    simp [h]

theorem eq_lp {α : Type} [DecidableEq α] {f g : List α} {body : Int → Option (Int ⊕ (Unit ⊕ Bool))} (he : f.length = g.length)
    (hb : ∀ (i : Nat) a b, f[i]? = some a → g[i]? = some b → body i = some (if a = b then .inl ((i + 1 : Nat) : Int) else .inr (.inr false)))
    (hend : body (f.length : Nat) = some (.inr (.inl ()))) : ∀ (m k : Nat), f.length - k = m → k ≤ f.length → lp body (k : Int) = some (if f.drop k = g.drop k then .inl () else .inr false)
  | 0, k, hm, hk => by
    have : k = f.length := by omega
    subst this
    rw [List.drop_length, he, List.drop_length, if_pos rfl]
    rw [← he]
    exact lp_last hend
  | m + 1, k, hm, hk => by
    have h1 : k < f.length := by omega
    have h2 : k < g.length := by omega
    have hbk := hb k _ _ (List.getElem?_eq_getElem h1) (List.getElem?_eq_getElem h2)
    have e1 : f.drop k = f[k] :: f.drop (k + 1) := List.drop_eq_getElem_cons h1
    have e2 : g.drop k = g[k] :: g.drop (k + 1) := List.drop_eq_getElem_cons h2
    have hiff : (f.drop k = g.drop k) ↔ (f[k] = g[k] ∧ f.drop (k + 1) = g.drop (k + 1)) := by rw [e1, e2, List.cons.injEq]
    by_cases h : f[k] = g[k]
    · rw [if_pos h] at hbk
      rw [lp_next hbk, eq_lp he hb hend m (k + 1) (by omega) (by omega)]
      simp only [hiff, h, true_and]
    · rw [if_neg h] at hbk
      rw [lp_last hbk]
      simp only [hiff, h, false_and, if_false]

theorem len_ne {α : Type} {f g : List α} (h : f.length ≠ g.length) : (!decide (((f.length : Nat) : Int) = ((g.length : Nat) : Int))) = true := by simp; omega

theorem len_eq {α : Type} {f g : List α} (h : f.length = g.length) : (!decide (((f.length : Nat) : Int) = ((g.length : Nat) : Int))) = false := by simp [h]

theorem rowSame_eq (a b : List api_Value) (hl : a.length ≤ 17592186044416) : s_row_Same a b = some (decide (a = b)) := by
  unfold s_row_Same s_slices_Equal_api_Row_api_Value
  by_cases he : a.length = b.length
  · rw [len_eq he, cond_false]
    unfold slices_Equal_api_Row_api_Value_h2
    have := eq_lp (f := a) (g := b) (body := fun s => slices_Equal_api_Row_api_Value_l2 a b (a.length : Nat) s) he ?_ ?_ a.length 0 rfl (Nat.zero_le _)
    · simp only [Int.natCast_zero, List.drop_zero] at this
      rw [this]
      by_cases h : a = b <;> simp [h, slices_Equal_api_Row_api_Value_j1]
    · intro i x y hx hy
      obtain ⟨d1, d2, d3, d4⟩ := idx hx (by omega)
      obtain ⟨_, e2, e3, _⟩ := idx hy (by omega)
      simp only [slices_Equal_api_Row_api_Value_l2, d1, cond_true, asrt_pos d2, asrt_pos e2, d3, e3, d4, veq]
      by_cases h : x = y <;> simp [h]
    · simp only [slices_Equal_api_Row_api_Value_l2, idx_end, cond_false]
  · rw [len_ne he, cond_true]
    have : a ≠ b := fun h => he (by rw [h])
    simp [this]

theorem refRowSame_eq (a b : List api_Value) (hl : a.length ≤ 17592186044416) : s_ref06_Same a b = some (decide (a = b)) := by
  unfold s_ref06_Same
  by_cases he : a.length = b.length
  · rw [len_eq he, cond_false]
    unfold ref06_Same_h2
    have := eq_lp (f := a) (g := b) (body := fun s => ref06_Same_l2 a b s) he ?_ ?_ a.length 0 rfl (Nat.zero_le _)
    · simp only [Int.natCast_zero, List.drop_zero] at this
      rw [this]
      by_cases h : a = b <;> simp [h, ref06_Same_j1]
    · intro i x y hx hy
      obtain ⟨d1, d2, d3, d4⟩ := idx hx (by omega)
      obtain ⟨_, e2, e3, _⟩ := idx hy (by omega)
      simp only [ref06_Same_l2, d1, cond_true, asrt_pos d2, asrt_pos e2, d3, e3, d4, veq]
      by_cases h : x = y <;> simp [h]
    · simp only [ref06_Same_l2, idx_end, cond_false]
  · rw [len_ne he, cond_true]
    have : a ≠ b := fun h => he (by rw [h])
    simp [this]

structure COrd {α : Type} (c : α → α → Int) : Prop where
  eq : ∀ a b, c a b = 0 ↔ a = b
  anti : ∀ a b, c a b < 0 ↔ 0 < c b a
  trans : ∀ a b d, c a b < 0 → c b d < 0 → c a d < 0

def cmpI (x y : Int) : Int := if x < y then -1 else if y < x then 1 else 0

theorem cmpI_ord : COrd cmpI where
  eq a b := by unfold cmpI; (repeat' split) <;> omega
  anti a b := by unfold cmpI; (repeat' split) <;> omega
  trans a b d := by unfold cmpI; (repeat' split) <;> omega

def cmpList {α : Type} [DecidableEq α] (c : α → α → Int) : List α → List α → Int
  | [], [] => 0
  | [], _ :: _ => -1
  | _ :: _, [] => 1
  | a :: r, b :: s => if a = b then cmpList c r s else c a b

theorem COrd.list {α : Type} [DecidableEq α] {c : α → α → Int} (h : COrd c) : COrd (cmpList c) where
  eq := by
    intro a
    induction a with
    | nil => intro b; cases b <;> simp [cmpList]
    | cons x r ih =>
      intro b
      cases b with
      | nil => simp [cmpList]
      | cons y s =>
        unfold cmpList
        split
        · rename_i e; subst e; rw [ih]; simp
        · rename_i e
          have := h.eq x y
          constructor
          · intro h0; exact absurd (this.1 h0) e
          · intro h0; cases h0; exact absurd rfl e
  anti := by
    intro a
    induction a with
    | nil => intro b; cases b <;> simp [cmpList]
    | cons x r ih =>
      intro b
      cases b with
      | nil => simp [cmpList]
      | cons y s =>
        unfold cmpList
        by_cases e : x = y
        · subst e; simp only [if_true]; exact ih s
        · rw [if_neg e, if_neg (fun e' => e e'.symm)]; exact h.anti x y
  trans := by
    intro a
    induction a with
    | nil =>
      intro b d
      cases b <;> cases d <;> simp [cmpList]
    | cons x r ih =>
      intro b d
      cases b with
      | nil => simp [cmpList]
      | cons y s =>
        cases d with
        | nil => simp [cmpList]
        | cons z t =>
          unfold cmpList
          by_cases e1 : x = y
          · subst e1
            rw [if_pos rfl]
            by_cases e2 : x = z
            · subst e2; rw [if_pos rfl, if_pos rfl]; exact ih s t
            · rw [if_neg e2, if_neg e2]; exact fun _ h => h
          · rw [if_neg e1]
            by_cases e2 : y = z
            · have hz : ¬ x = z := fun e => e1 (e.trans e2.symm)
              intro h _
              rw [if_neg hz, ← e2]; exact h
            · rw [if_neg e2]
              intro h1 h2
              by_cases e3 : x = z
              · subst e3
                have h3 := (h.anti x y).1 h1
                omega
              · rw [if_neg e3]; exact h.trans x y z h1 h2

def cmpU (a b : UInt8) : Int := if a < b then -1 else if b < a then 1 else 0

theorem cmpU_ord : COrd cmpU where
  eq a b := by
    unfold cmpU
    constructor
    · intro h
      split at h
      · cases h
      · split at h
        · cases h
        · rename_i h1 h2
          rw [UInt8.lt_iff_toNat_lt] at h1 h2
          exact UInt8.toNat_inj.1 (by omega)
    · rintro rfl
      have : ¬ a < a := by rw [UInt8.lt_iff_toNat_lt]; omega
      simp [this]
  anti a b := by
    unfold cmpU
    simp only [UInt8.lt_iff_toNat_lt]
    (repeat' split) <;> omega
  trans a b d := by
    unfold cmpU
    simp only [UInt8.lt_iff_toNat_lt]
    (repeat' split) <;> omega

theorem compareBytes_is : ∀ (a b : List UInt8), Go.Lib.compareBytes a b = cmpList cmpU a b
  | [], [] => rfl
  | [], _ :: _ => rfl
  | _ :: _, [] => rfl
  | a :: r, b :: s => by
    unfold Go.Lib.compareBytes cmpList
    rw [compareBytes_is r s]
    by_cases e : a = b
    · subst e
      have : ¬ a < a := by rw [UInt8.lt_iff_toNat_lt]; omega
      simp [this]
    · rw [if_neg e]
      unfold cmpU
      have : ¬ (¬ a < b ∧ ¬ b < a) := by
        rintro ⟨h1, h2⟩
        rw [UInt8.lt_iff_toNat_lt] at h1 h2
        exact e (UInt8.toNat_inj.1 (by omega))
      by_cases h1 : a < b
      · simp [h1]
      · have h2 : b < a := Classical.byContradiction fun h2 => this ⟨h1, h2⟩
        simp [h1, h2]

def cmpT (a b : ByteArray) : Int := cmpList cmpU a.data.toList b.data.toList

theorem cmpB_is (a b : ByteArray) : cmpB a b = cmpT a b := compareBytes_is _ _

theorem data_inj {x y : ByteArray} (h : x.data.toList = y.data.toList) : x = y := by
  cases x; cases y
  congr 1
  exact Array.toList_inj.1 h

theorem cmpT_ord : COrd cmpT where
  eq a b := by unfold cmpT; rw [(cmpU_ord.list).eq]; exact ⟨data_inj, fun h => by rw [h]⟩
  anti a b := (cmpU_ord.list).anti _ _
  trans a b d := (cmpU_ord.list).trans _ _ _

def cmpV (a b : api_Value) : Int := if a.Kind = b.Kind then (if a.Num = b.Num then cmpT a.Text b.Text else cmpI a.Num b.Num) else cmpI a.Kind b.Kind

theorem cmpV_ord : COrd cmpV where
  eq a b := by
    obtain ⟨a1, a2, a3⟩ := a
    obtain ⟨b1, b2, b3⟩ := b
    unfold cmpV
    simp only [api_Value.mk.injEq]
    by_cases h1 : a1 = b1
    · by_cases h2 : a2 = b2
      · simp [h1, h2, cmpT_ord.eq]
      · simp [h1, h2, cmpI_ord.eq]
    · simp [h1, cmpI_ord.eq]
  anti a b := by
    unfold cmpV
    by_cases h1 : a.Kind = b.Kind
    · rw [if_pos h1, if_pos h1.symm]
      by_cases h2 : a.Num = b.Num
      · rw [if_pos h2, if_pos h2.symm]; exact cmpT_ord.anti _ _
      · rw [if_neg h2, if_neg (fun h => h2 h.symm)]; exact cmpI_ord.anti _ _
    · rw [if_neg h1, if_neg (fun h => h1 h.symm)]; exact cmpI_ord.anti _ _
  trans a b d := by
    unfold cmpV
    intro h1 h2
    have lt : ∀ {x y : Int}, cmpI x y < 0 → x < y := fun {x y} h => by unfold cmpI at h; split at h <;> (try split at h) <;> omega
    have mk : ∀ {x y : Int}, x < y → cmpI x y < 0 := fun {x y} h => by unfold cmpI; rw [if_pos h]; omega
    by_cases e1 : a.Kind = b.Kind
    · rw [if_pos e1] at h1
      by_cases e2 : b.Kind = d.Kind
      · rw [if_pos e2] at h2
        rw [if_pos (e1.trans e2)]
        by_cases f1 : a.Num = b.Num
        · rw [if_pos f1] at h1
          by_cases f2 : b.Num = d.Num
          · rw [if_pos f2] at h2
            rw [if_pos (f1.trans f2)]
            exact cmpT_ord.trans _ _ _ h1 h2
          · rw [if_neg f2] at h2
            rw [f1, if_neg f2]; exact h2
        · rw [if_neg f1] at h1
          have g1 := lt h1
          by_cases f2 : b.Num = d.Num
          · rw [← f2, if_neg f1]; exact h1
          · rw [if_neg f2] at h2
            have g2 := lt h2
            rw [if_neg (by omega)]
            exact mk (by omega)
      · rw [if_neg e2] at h2
        rw [e1, if_neg e2]; exact h2
    · rw [if_neg e1] at h1
      have g1 := lt h1
      by_cases e2 : b.Kind = d.Kind
      · rw [← e2, if_neg e1]; exact h1
      · rw [if_neg e2] at h2
        have g2 := lt h2
        rw [if_neg (by omega)]
        exact mk (by omega)

/-- How rows stand to each other. -/
def cmpR (a b : List api_Value) : Int := cmpList cmpV a b

theorem cmpR_ord : COrd cmpR := cmpV_ord.list

end Go.Abs
namespace Go.Abs
open Go
theorem cmpInt_eq (x y : Int) : s_cmp_Compare_int x y = some (cmpI x y) := by
  unfold s_cmp_Compare_int s_cmp_isNaN_int cmpI
  by_cases h1 : x < y
  · simp [h1]
  · by_cases h2 : y < x <;> simp [h1, h2]

theorem cmpNum_eq (x y : Int) : s_cmp_Compare_value_number x y = some (cmpI x y) := by
  unfold s_cmp_Compare_value_number s_cmp_isNaN_value_number cmpI
  by_cases h1 : x < y
  · simp [h1]
  · by_cases h2 : y < x <;> simp [h1, h2]

theorem numB_is {v : api_Value} (h : numB v = true) : v.Kind = 1 ∧ v.Text = (⟨#[]⟩ : ByteArray) := by
  simp only [numB, strEq_iff, Bool.and_eq_true, decide_eq_true_eq] at h; exact h

theorem wordB_is {v : api_Value} (h : wordB v = true) : v.Kind = 2 ∧ v.Num = 0 ∧ v.Text.size ≤ 64 := by
  simp only [wordB, Bool.and_eq_true, decide_eq_true_eq] at h; exact ⟨h.1.1, h.1.2, by omega⟩

theorem vMay_or {v : api_Value} (h : vMay v = true) : numB v = true ∨ (numB v = false ∧ wordB v = true) := by
  unfold vMay at h
  cases hn : numB v
  · rw [hn] at h; exact .inr ⟨rfl, by simpa using h⟩
  · exact .inl rfl

theorem cmpT_self (a : ByteArray) : cmpT a a = 0 := (cmpT_ord.eq a a).2 rfl

theorem cmpI_self (a : Int) : cmpI a a = 0 := (cmpI_ord.eq a a).2 rfl

theorem valCmp_eq {a b : api_Value} (ha : vMay a = true) (hb : vMay b = true) : s_value_Compare a b = some (cmpV a b) := by
  unfold s_value_Compare
  simp only [of_eq, Option.bind_some]
  rcases vMay_or ha with h1 | ⟨h1, h1'⟩ <;> rcases vMay_or hb with h2 | ⟨h2, h2'⟩
  · obtain ⟨k1, t1⟩ := numB_is h1
    obtain ⟨k2, t2⟩ := numB_is h2
    simp only [h1, h2, if_true, Bool.not_true, Bool.or_self, cond_false, cmpNum_eq, Option.bind_some]
    unfold cmpV
    rw [k1, k2, t1, t2, if_pos rfl, cmpT_self]
    by_cases hn : a.Num = b.Num
    · rw [if_pos hn, hn, cmpI_self]
    · rw [if_neg hn]
  · obtain ⟨k1, t1⟩ := numB_is h1
    obtain ⟨k2, n2, _⟩ := wordB_is h2'
    simp only [h1, h2, h2', if_true, Bool.false_eq_true, if_false, Bool.not_true, Bool.or_self, cond_false]
    unfold cmpV
    rw [k1, k2]; rfl
  · obtain ⟨k1, n1, _⟩ := wordB_is h1'
    obtain ⟨k2, t2⟩ := numB_is h2
    simp only [h1, h1', h2, if_true, Bool.false_eq_true, if_false, Bool.not_true, Bool.or_self, cond_false]
    unfold cmpV
    rw [k1, k2]; rfl
  · obtain ⟨k1, n1, _⟩ := wordB_is h1'
    obtain ⟨k2, n2, _⟩ := wordB_is h2'
    simp only [h1, h1', h2, h2', if_true, Bool.false_eq_true, if_false, Bool.not_true, Bool.or_self, cond_false]
    unfold cmpV s_strings_Compare s_internal_bytealg_CompareString
    rw [k1, k2, n1, n2, if_pos rfl, if_pos rfl]
    simp [cmpB_is]

theorem rMay_is {r : List api_Value} (h : rMay r = true) : r.length ≤ 8 ∧ ∀ v ∈ r, vMay v = true := by
  simp only [rMay, Bool.and_eq_true, decide_eq_true_eq, List.all_eq_true] at h; exact h

theorem cmpR_end {a b : List api_Value} {k : Nat} (hk : k = a.length ∨ k = b.length) (h1 : k ≤ a.length) (h2 : k ≤ b.length) : cmpR (a.drop k) (b.drop k) = cmpI a.length b.length := by
  rcases hk with rfl | rfl
  · rw [List.drop_length]
    by_cases h : a.length = b.length
    · rw [h, List.drop_length, cmpI_self]; rfl
    · rw [List.drop_eq_getElem_cons (by omega)]
      show (-1 : Int) = _
      unfold cmpI; rw [if_pos (by omega)]
  · rw [List.drop_length]
    by_cases h : a.length = b.length
    · rw [← h, List.drop_length, cmpI_self]; rfl
    · rw [List.drop_eq_getElem_cons (by omega)]
      show (1 : Int) = _
      unfold cmpI; rw [if_neg (by omega), if_pos (by omega)]

theorem idxF_lp {a b : List api_Value} (hl : a.length ≤ 8) (hlb : b.length ≤ 8) (n : Nat) (hn : n = min a.length b.length) : ∀ (m k : Nat), n - k = m → k ≤ n →
    ∃ x, lp (fun s : Int × Int => slices_IndexFunc_api_Row_api_Value_F_l2 (fun st y0 => (s_row_Compare_1_1 y0 st b).bind fun o => some (o.2, o.1)) (a.take n) (n : Nat) s.1 s.2) ((k : Int) - 1, (k : Int)) = some x ∧
      ((∃ sg, x = .inl sg ∧ cmpR (a.drop k) (b.drop k) = cmpI a.length b.length) ∨
        (∃ i : Nat, x = .inr ((i : Int), (i : Int)) ∧ i < a.length ∧ i < b.length ∧ cmpR (a.drop k) (b.drop k) = cmpV (a.getD i default) (b.getD i default)))
  | 0, k, hm, hk => by
    have : k = n := by omega
    subst this
    refine ⟨.inl ((k : Int) - 1), lp_last ?_, .inl ⟨_, rfl, cmpR_end (by omega) (by omega) (by omega)⟩⟩
    show slices_IndexFunc_api_Row_api_Value_F_l2 _ _ _ _ _ = _
    simp only [slices_IndexFunc_api_Row_api_Value_F_l2, idx_end, cond_false]
  | m + 1, k, hm, hk => by
    have h1 : k < a.length := by omega
    have h2 : k < b.length := by omega
    have ht : (a.take n)[k]? = some a[k] := by
      rw [List.getElem?_take_of_lt (by omega)]; exact List.getElem?_eq_getElem h1
    obtain ⟨d1, d2, d3, d4⟩ := idx ht (by simp; omega)
    have hlt : (a.take n).length = n := by simp; omega
    rw [hlt] at d1 d2
    obtain ⟨_, e2, e3, _⟩ := idx (List.getElem?_eq_getElem h2) (by omega)
    have hw : IntKind.i64.wrap ((k : Int) - 1 + 1) = (k : Int) := by rw [wrap_in (by omega) (by omega)]; omega
    have hb : (fun s : Int × Int => slices_IndexFunc_api_Row_api_Value_F_l2 (fun st y0 => (s_row_Compare_1_1 y0 st b).bind fun o => some (o.2, o.1)) (a.take n) (n : Nat) s.1 s.2) ((k : Int) - 1, (k : Int)) =
        some (if a[k] = b[k] then .inl ((k : Int), ((k + 1 : Nat) : Int)) else .inr (.inr ((k : Int), (k : Int)))) := by
      show slices_IndexFunc_api_Row_api_Value_F_l2 _ _ _ _ _ = _
      simp only [slices_IndexFunc_api_Row_api_Value_F_l2, d1, cond_true, hlt, asrt_pos d2, d3, d4, s_row_Compare_1_1, hw, asrt_pos e2, e3, veq, Option.bind_some]
      by_cases h : a[k] = b[k] <;> simp [h]
    have ea : a.drop k = a[k] :: a.drop (k + 1) := List.drop_eq_getElem_cons h1
    have eb : b.drop k = b[k] :: b.drop (k + 1) := List.drop_eq_getElem_cons h2
    by_cases h : a[k] = b[k]
    · rw [if_pos h] at hb
      obtain ⟨x, e, hx⟩ := idxF_lp hl hlb n hn m (k + 1) (by omega) (by omega)
      have hc : cmpR (a.drop k) (b.drop k) = cmpR (a.drop (k + 1)) (b.drop (k + 1)) := by
        rw [ea, eb]; unfold cmpR; rw [cmpList, if_pos h]
      refine ⟨x, ?_, by rw [hc]; exact hx⟩
      rw [lp_next hb]
      rw [show ((k + 1 : Nat) : Int) - 1 = (k : Int) by omega] at e
      exact e
    · rw [if_neg h] at hb
      refine ⟨_, lp_last hb, .inr ⟨k, rfl, h1, h2, ?_⟩⟩
      rw [ea, eb]; unfold cmpR; rw [cmpList, if_neg h]
      simp [List.getD_eq_getElem?_getD, h1, h2]

theorem rowCmp_eq (a b : List api_Value) : s_row_Compare a b = some (if rMay a && rMay b then cmpR a b else 0) := by
  unfold s_row_Compare
  rw [rMay_eq]
  simp only [Option.bind_some]
  cases ha : rMay a
  · simp [gcall]
  · simp only [Bool.not_true, Bool.not_false, gcall, cond_true, rMay_eq, Option.bind_some, Bool.false_or]
    cases hb : rMay b
    · simp
    · obtain ⟨la, ma⟩ := rMay_is ha
      obtain ⟨lb, mb⟩ := rMay_is hb
      have hif : (if ((List.length b : Nat) : Int) < ((List.length a : Nat) : Int) then ((List.length b : Nat) : Int) else ((List.length a : Nat) : Int)) = ((min a.length b.length : Nat) : Int) := by split <;> omega
      have hlt : (a.take (min a.length b.length)).length = min a.length b.length := by rw [List.length_take]; omega
      simp only [Bool.not_true, cond_false, hif, Int.toNat_natCast, s_row_Compare_1, Option.bind_some, s_slices_IndexFunc_api_Row_api_Value_F, slices_IndexFunc_api_Row_api_Value_F_h2, hlt, Bool.and_self, if_true]
      rw [asrt_pos ⟨by omega, by omega⟩]
      obtain ⟨x, e, hx⟩ := idxF_lp (a := a) (b := b) la lb _ rfl _ 0 rfl (Nat.zero_le _)
      have e' : lp (fun s : Int × Int => slices_IndexFunc_api_Row_api_Value_F_l2 (fun st y0 => (s_row_Compare_1_1 y0 st b).bind fun o => some (o.2, o.1)) (a.take (min a.length b.length)) (min a.length b.length : Nat) s.1 s.2) ((-1 : Int), (0 : Int)) = some x := e
      rw [e']
      simp only [List.drop_zero] at hx
      rcases hx with ⟨sg, rfl, h⟩ | ⟨i, rfl, h1, h2, h⟩
      · simp [slices_IndexFunc_api_Row_api_Value_F_j1, cmpInt_eq, h]
      · have hi : decide ((i : Int) < 0) = false := by simp
        simp only [Option.bind_some, Sum.elim_inr, hi, cond_false, Int.toNat_natCast]
        rw [asrt_pos ⟨by omega, by omega⟩, asrt_pos ⟨by omega, by omega⟩]
        have g1 : a.getD i default ∈ a := by simp [List.getD_eq_getElem?_getD, h1]
        have g2 : b.getD i default ∈ b := by simp [List.getD_eq_getElem?_getD, h2]
        rw [valCmp_eq (ma _ g1) (mb _ g2), h]
        simp only [Option.bind_some]

end Go.Abs
namespace Go.Abs
open Go
def jE (e : api_Edge) : api_Jump := ⟨e.At, e.Net⟩

/-- Runs of one row. -/
def gA (r : List api_Value) (f : List api_Jump) : List api_Edge → List (List api_Value × List api_Jump)
  | [] => [(r, f)]
  | e :: l => if e.Row = r then gA r (f ++ [jE e]) l else (r, f) :: gA e.Row [jE e] l

def groups : List api_Edge → List (List api_Value × List api_Jump)
  | [] => []
  | e :: l => gA e.Row [jE e] l

def itG {σ : Type} (y : σ → List api_Value → List api_Jump → Option (σ × Bool)) : List (List api_Value × List api_Jump) → σ → Option σ
  | [], s => some s
  | g :: gs, s => (y s g.1 g.2).bind fun x => if x.2 then itG y gs x.1 else some x.1

/-- Edges for which there is room. -/
def okL (l : List api_Edge) : Prop := l.length ≤ 3518437208783 ∧ ∀ e ∈ l, e.Row.length ≤ 4398046510976

theorem rowCopy_eq {r : List api_Value} (h : r.length ≤ 4398046510976) : s_row_Copy r = some r := by
  unfold s_row_Copy
  rw [asrt_pos ⟨by omega, by omega, by omega⟩, asrt_pos (by simp only [List.length_nil, Nat.zero_add]; omega)]
  rfl

theorem runs_inner {σ : Type} {y : σ → List api_Value → List api_Jump → Option (σ × Bool)} {l : List api_Edge} (hl : okL l) (row : List api_Value) (sg : σ) : ∀ (r : List api_Edge) (k : Nat) (f : List api_Jump), l.drop k = r → k ≤ l.length → f.length ≤ k →
    ∃ k' f', k ≤ k' ∧ k' ≤ l.length ∧ f'.length ≤ k' ∧ lp (fun s : σ × Int × List api_Jump => edge_runs_1_G_l3 y l row s.1 s.2.1 s.2.2) (sg, (k : Int), f) = some (sg, ((k' : Nat) : Int), f') ∧
      gA row f r = (row, f') :: groups (l.drop k') ∧ (∀ e r', r = e :: r' → e.Row = row → k < k')
  | [], k, f, hd, hk, hf => by
    have : k = l.length := by
      have := congrArg List.length hd
      simp only [List.length_drop, List.length_nil] at this; omega
    subst this
    refine ⟨l.length, f, Nat.le_refl _, Nat.le_refl _, hf, lp_last ?_, by simp [gA, groups], fun e r' h => by cases h⟩
    show edge_runs_1_G_l3 _ _ _ _ _ _ = _
    simp only [edge_runs_1_G_l3, idx_end, gcall, cond_false, Option.bind_some, Bool.false_and]
    exact asrt_pos (fun h => by cases h)
  | a :: r, k, f, hd, hk, hf => by
    obtain ⟨h1, h2⟩ := drop_cons hd
    have hlt : k < l.length := (List.getElem?_eq_some_iff.1 h1).1
    obtain ⟨hll, hlr⟩ := hl
    obtain ⟨d1, d2, d3, d4⟩ := idx h1 (by omega)
    have har := hlr a (List.mem_of_getElem? h1)
    have hb : (fun s : σ × Int × List api_Jump => edge_runs_1_G_l3 y l row s.1 s.2.1 s.2.2) (sg, (k : Int), f) = some (if a.Row = row then .inl (sg, ((k + 1 : Nat) : Int), f ++ [jE a]) else .inr (sg, (k : Int), f)) := by
      show edge_runs_1_G_l3 _ _ _ _ _ _ = _
      simp only [edge_runs_1_G_l3, d1, d3, d4, gcall, cond_true, rowSame_eq a.Row row (by omega), Option.bind_some, Bool.true_and]
      rw [asrt_pos (fun _ => d2)]
      by_cases e : a.Row = row
      · simp only [e, decide_true, cond_true, if_true]
        rw [asrt_pos d2, asrt_pos d2, asrt_pos (by simp only [List.length_cons, List.length_nil]; omega)]
        rfl
      · simp [e]
    by_cases e : a.Row = row
    · rw [if_pos e] at hb
      obtain ⟨k', f', g1, g2, g3, g4, g5, _⟩ := runs_inner ⟨hll, hlr⟩ row sg r (k + 1) (f ++ [jE a]) h2 (by omega) (by simp; omega) (y := y)
      refine ⟨k', f', by omega, g2, g3, by rw [lp_next hb]; exact g4, by simp [gA, e, g5], fun _ _ _ _ => by omega⟩
    · rw [if_neg e] at hb
      refine ⟨k, f, Nat.le_refl _, hk, hf, lp_last hb, ?_, fun b r' h hr => by cases h; exact absurd hr e⟩
      rw [hd]; simp [gA, e, groups]

theorem runs_outer {σ : Type} {y : σ → List api_Value → List api_Jump → Option (σ × Bool)} {l : List api_Edge} (hl : okL l) : ∀ (m k : Nat) (sg s' : σ), l.length - k ≤ m → k ≤ l.length → itG y (groups (l.drop k)) sg = some s' →
    ∃ x, lp (fun s : σ × Int => edge_runs_1_G_l1 y l s.1 s.2) (sg, (k : Int)) = some x ∧ Sum.elim id id x = s' := by
  have stop : ∀ (sg s' : σ), itG y (groups (l.drop l.length)) sg = some s' → ∃ x, lp (fun s : σ × Int => edge_runs_1_G_l1 y l s.1 s.2) (sg, ((l.length : Nat) : Int)) = some x ∧ Sum.elim id id x = s' := by
    intro sg s' h
    rw [List.drop_length] at h
    simp only [groups, itG, Option.some.injEq] at h
    refine ⟨.inl sg, lp_last ?_, h⟩
    show edge_runs_1_G_l1 _ _ _ _ = _
    simp only [edge_runs_1_G_l1, idx_end, cond_false]
  intro m
  induction m with
  | zero =>
    intro k sg s' hm hk h
    have : k = l.length := by omega
    subst this; exact stop sg s' h
  | succ m ih =>
    intro k sg s' hm hk h
    by_cases he : k = l.length
    · subst he; exact stop sg s' h
    · have hlt : k < l.length := by omega
      have hd : l.drop k = l[k] :: l.drop (k + 1) := List.drop_eq_getElem_cons hlt
      obtain ⟨d1, d2, d3, d4⟩ := idx (List.getElem?_eq_getElem hlt) (by have := hl.1; omega)
      obtain ⟨k', f', g1, g2, g3, g4, g5, g6⟩ := runs_inner hl l[k].Row sg (l.drop k) k [] rfl hk (by simp) (y := y)
      have hk' := g6 _ _ hd rfl
      have hg : groups (l.drop k) = (l[k].Row, f') :: groups (l.drop k') := by
        rw [← g5, hd]; simp [groups, gA]
      rw [hg] at h
      simp only [itG] at h
      obtain ⟨x, hx, h⟩ := bindE h
      have hrow := hl.2 _ (List.getElem_mem hlt)
      have hb : (fun s : σ × Int => edge_runs_1_G_l1 y l s.1 s.2) (sg, (k : Int)) = some (if x.2 then .inl (x.1, ((k' : Nat) : Int)) else .inr (.inr x.1)) := by
        show edge_runs_1_G_l1 _ _ _ _ = _
        simp only [edge_runs_1_G_l1, d1, cond_true, asrt_pos d2, d3, edge_runs_1_G_h3, g4, Option.bind_some, edge_runs_1_G_j2, rowCopy_eq hrow, hx]
        cases x.2 <;> simp
      cases hx2 : x.2
      · rw [hx2] at hb h
        simp only [Bool.false_eq_true, if_false, Option.some.injEq] at hb h
        exact ⟨_, lp_last hb, h⟩
      · rw [hx2] at hb h
        simp only [if_true] at hb h
        obtain ⟨z, hz1, hz2⟩ := ih k' x.1 s' (by omega) g2 h
        exact ⟨z, by rw [lp_next hb]; exact hz1, hz2⟩

/-- What is done with each run, is done one after another. -/
theorem runs_eq {σ : Type} {y : σ → List api_Value → List api_Jump → Option (σ × Bool)} {l : List api_Edge} (hl : okL l) {s s' : σ} (h : itG y (groups l) s = some s') : s_edge_runs_1_G y l s = some s' := by
  unfold s_edge_runs_1_G edge_runs_1_G_h1
  obtain ⟨x, h1, h2⟩ := runs_outer hl l.length 0 s s' (by omega) (Nat.zero_le _) (by simpa using h)
  simp only [Int.natCast_zero] at h1
  rw [h1]
  cases x <;> simpa using h2

def ahd (last : Option (List api_Value)) (r : List api_Value) : Bool := match last with
  | none => true
  | some q => decide (cmpR q r < 0)

def eachB (p : List api_Jump → Bool) : Option (List api_Value) → List (List api_Value × List api_Jump) → Bool
  | _, [] => true
  | last, g :: gs => (rMay g.1 && ahd last g.1 && p g.2) && eachB p (some g.1) gs

theorem each_it {holds : List api_Jump → Option Bool} {p : List api_Jump → Bool} (hp : ∀ f, holds f = some (p f)) (c : List api_Edge) (t : Bool) : ∀ (gs : List (List api_Value × List api_Jump)) (last : List api_Value) (b : Bool), (b = true → rMay last = true) →
    ∃ x, itG (fun st r f => rnd (fun (s : Bool × (List api_Value) × Bool) => edge_each_l1 holds c s.1 s.2.1 s.2.2 r f) st) gs (.inl (t, last, b)) = some x ∧
      (if eachB p (if b then some last else none) gs then ∃ u, x = .inl (t, u) else ∃ u, x = .inr (false, u))
  | [], last, b, _ => ⟨_, rfl, by simp [eachB]⟩
  | g :: gs, last, b, hb => by
    have hy : edge_each_l1 holds c t last b g.1 g.2 = some (if rMay g.1 && ahd (if b then some last else none) g.1 && p g.2 then .inl (t, g.1, true) else .inr (false, last, b)) := by
      unfold edge_each_l1
      simp only [rMay_eq, Option.bind_some, rowCmp_eq, hp]
      cases hm : rMay g.1
      · simp [gcall]
      · cases b
        · cases h2 : p g.2 <;> simp [gcall, ahd, h2]
        · have hl := hb rfl
          by_cases h1 : cmpR last g.1 < 0
          · have h1' : ¬ (0 ≤ cmpR last g.1) := by omega
            cases h2 : p g.2 <;> simp [gcall, ahd, h2, hl, h1, h1']
          · have h1' : 0 ≤ cmpR last g.1 := by omega
            simp [gcall, ahd, hl, h1, h1']
    cases hc : (rMay g.1 && ahd (if b then some last else none) g.1 && p g.2)
    · rw [hc] at hy
      simp only [itG, rnd, hy, Option.bind_some, eachB, hc]
      exact ⟨.inr (false, last, b), by simp, by simp⟩
    · rw [hc] at hy
      simp only [itG, rnd, hy, Option.bind_some, eachB, hc]
      have hm : rMay g.1 = true := by simp only [Bool.and_eq_true] at hc; exact hc.1.1
      obtain ⟨x, h1, h2⟩ := each_it hp c t gs g.1 true (fun _ => hm)
      refine ⟨x, ?_, ?_⟩
      · simpa [rnd] using h1
      · simpa using h2

theorem each_eq {l : List api_Edge} (hl : okL l) {holds : List api_Jump → Option Bool} {p : List api_Jump → Bool} (hp : ∀ f, holds f = some (p f)) : s_edge_each l holds = some (decide (l.length ≤ 4096) && eachB p none (groups l)) := by
  unfold s_edge_each
  by_cases h : l.length ≤ 4096
  · have h1 : decide ((4096 : Int) < ((l.length : Nat) : Int)) = false := by simp; omega
    rw [h1, cond_false]
    simp only [s_edge_runs, Option.bind_some, edge_each_h1]
    obtain ⟨x, e1, e2⟩ := each_it hp l false (groups l) [] false (fun h => by cases h)
    rw [runs_eq hl e1]
    simp only [Bool.false_eq_true, if_false] at e2
    simp only [h, decide_true, Bool.true_and]
    cases hc : eachB p none (groups l)
    · rw [hc] at e2
      simp only [Bool.false_eq_true, if_false] at e2
      obtain ⟨u, rfl⟩ := e2
      rfl
    · rw [hc] at e2
      simp only [if_true] at e2
      obtain ⟨u, rfl⟩ := e2
      rfl
  · have h1 : decide ((4096 : Int) < ((l.length : Nat) : Int)) = true := by simp; omega
    rw [h1, cond_true]
    simp [h]

/-- Is it a list of edges as it must be? -/
def mayE (l : List api_Edge) : Bool := decide (l.length ≤ 4096) && eachB mayB none (groups l)

theorem mayE_eq {l : List api_Edge} (hl : okL l) : s_edge_May l = some (mayE l) := by
  unfold s_edge_May
  rw [each_eq hl (p := mayB) (fun f => may_eq f)]; rfl

def tabB (f : List api_Jump) : Bool := mayB f && decide (0 ≤ leastL f)

def tableE (l : List api_Edge) : Bool := decide (l.length ≤ 4096) && eachB tabB none (groups l)

theorem tableE_eq {l : List api_Edge} (hl : okL l) : s_edge_Table l = some (tableE l) := by
  unfold s_edge_Table
  rw [each_eq hl (p := tabB) (fun f => by
    unfold s_edge_Table_1 tabB
    rw [may_eq]
    cases h : mayB f <;> simp [gcall, least_eq, h])]
  rfl

def flatJ (r : List api_Value) (f : List api_Jump) : List api_Edge := f.map fun j => ⟨r, j.At, j.Net⟩

theorem put_eq {out : List api_Edge} {r : List api_Value} {f : List api_Jump} (hr : r.length ≤ 4398046510976) (hl : out.length + f.length ≤ 1099511627776) : s_edge_put out r f = some (out ++ flatJ r f) := by
  unfold s_edge_put edge_put_h2
  rw [lp_suf0 (l := f) (body := fun s : List api_Edge × Int => edge_put_l2 r f (f.length : Nat) s.1 s.2) (fun o i => (o, i)) (fun o t => o ++ flatJ r t) (fun o t => o.length + t.length ≤ 1099511627776) out ?_ ?_ hl]
  · rfl
  · intro i a t o ha hi
    left
    obtain ⟨d1, d2, d3, d4⟩ := idx ha (by have := (List.getElem?_eq_some_iff.1 ha).1; omega)
    simp only [List.length_cons] at hi
    refine ⟨o ++ [⟨r, a.At, a.Net⟩], ?_, by simp; omega, by simp [flatJ]⟩
    show edge_put_l2 _ _ _ _ _ = _
    simp only [edge_put_l2, d1, cond_true, asrt_pos d2, d3, d4, rowCopy_eq hr, Option.bind_some]
    exact asrt_pos (by simp only [List.length_cons, List.length_nil]; omega)
  · intro o _
    show edge_put_l2 _ _ _ _ _ = _
    simp only [edge_put_l2, idx_end, cond_false]
    simp [flatJ]

def mapG (by1 : List api_Jump → List api_Jump × Int) : List (List api_Value × List api_Jump) → List api_Edge → List api_Edge × Int
  | [], out => (out, 0)
  | g :: gs, out => if (by1 g.2).2 ≠ 0 then ([], (by1 g.2).2) else if 4096 < (out ++ flatJ g.1 (by1 g.2).1).length then ([], 7) else mapG by1 gs (out ++ flatJ g.1 (by1 g.2).1)

theorem mapped_it {by0 : List api_Jump → Option (List api_Jump × Int)} {by1 : List api_Jump → List api_Jump × Int} (c : List api_Edge) : ∀ (gs : List (List api_Value × List api_Jump)) (out : List api_Edge), out.length ≤ 4096 → (∀ g ∈ gs, by0 g.2 = some (by1 g.2) ∧ (by1 g.2).1.length ≤ 1024 ∧ g.1.length ≤ 4398046510976) →
    ∃ x, itG (fun st r f => rnd (fun (s : (List api_Edge) × Int × List api_Edge) => edge_mapped_l1 by0 c s.1 s.2.1 s.2.2 r f) st) gs (.inl ([], 0, out)) = some x ∧ Sum.elim (fun s : (List api_Edge) × Int × List api_Edge => (s.2.2, (0 : Int))) (fun s => (s.1, s.2.1)) x = mapG by1 gs out
  | [], out, _, _ => ⟨_, rfl, rfl⟩
  | g :: gs, out, ho, hg => by
    obtain ⟨h1, h2, h3⟩ := hg g (by simp)
    have hy : edge_mapped_l1 by0 c [] 0 out g.1 g.2 = some (if (by1 g.2).2 ≠ 0 then .inr ([], (by1 g.2).2, out) else if 4096 < (out ++ flatJ g.1 (by1 g.2).1).length then .inr ([], 7, out ++ flatJ g.1 (by1 g.2).1) else .inl ([], 0, out ++ flatJ g.1 (by1 g.2).1)) := by
      unfold edge_mapped_l1
      simp only [h1, Option.bind_some, put_eq h3 (show out.length + (by1 g.2).1.length ≤ 1099511627776 by omega)]
      by_cases e1 : (by1 g.2).2 = 0
      · by_cases e2 : 4096 < (out ++ flatJ g.1 (by1 g.2).1).length
        · have e2' : (4096 : Int) < (((out ++ flatJ g.1 (by1 g.2).1).length : Nat) : Int) := by omega
          simp only [e1, e2, e2', decide_true, Bool.not_true, cond_false, cond_true, ne_eq, not_true_eq_false, if_false, if_true]
        · have e2' : ¬ (4096 : Int) < (((out ++ flatJ g.1 (by1 g.2).1).length : Nat) : Int) := by omega
          simp only [e1, e2, e2', decide_true, decide_false, Bool.not_true, cond_false, ne_eq, not_true_eq_false, if_false]
      · simp only [e1, decide_false, Bool.not_false, cond_true, ne_eq, not_false_eq_true, if_true]
    simp only [itG, rnd, hy, Option.bind_some, mapG]
    by_cases e1 : (by1 g.2).2 ≠ 0
    · rw [if_pos e1, if_pos e1]; exact ⟨_, rfl, rfl⟩
    · rw [if_neg e1, if_neg e1]
      by_cases e2 : 4096 < (out ++ flatJ g.1 (by1 g.2).1).length
      · rw [if_pos e2, if_pos e2]; exact ⟨_, rfl, rfl⟩
      · rw [if_neg e2, if_neg e2]
        exact mapped_it c gs _ (by omega) (fun q hq => hg q (by simp [hq]))

theorem mapped_eq {l : List api_Edge} (hl : okL l) {by0 : List api_Jump → Option (List api_Jump × Int)} {by1 : List api_Jump → List api_Jump × Int} (hb : ∀ g ∈ groups l, by0 g.2 = some (by1 g.2) ∧ (by1 g.2).1.length ≤ 1024 ∧ g.1.length ≤ 4398046510976) : s_edge_mapped l by0 = some (mapG by1 (groups l) []) := by
  unfold s_edge_mapped
  simp only [s_edge_runs, Option.bind_some, edge_mapped_h1]
  obtain ⟨x, e1, e2⟩ := mapped_it (by0 := by0) (by1 := by1) l (groups l) [] (by simp) hb
  rw [runs_eq hl e1]
  cases x <;> simpa using e2

def flat (gs : List (List api_Value × List api_Jump)) : List api_Edge := gs.flatMap fun g => flatJ g.1 g.2

theorem gA_flat : ∀ (l : List api_Edge) (r : List api_Value) (f : List api_Jump), flat (gA r f l) = flatJ r f ++ l
  | [], r, f => by simp [gA, flat]
  | e :: l, r, f => by
    unfold gA
    split
    · rename_i h
      rw [gA_flat l r]
      simp [flatJ, jE, ← h]
    · have := gA_flat l e.Row [jE e]
      simp only [flat, List.flatMap_cons] at this ⊢
      rw [this]
      simp [flatJ, jE]

theorem groups_flat (l : List api_Edge) : flat (groups l) = l := by
  cases l with
  | nil => rfl
  | cons e l => unfold groups; rw [gA_flat]; simp [flatJ, jE]

theorem gA_mem {r : List api_Value} : ∀ {l : List api_Edge} {f : List api_Jump} {g : List api_Value × List api_Jump}, g ∈ gA r f l → f ≠ [] → g.2 ≠ [] ∧ (g.1 = r ∨ ∃ e ∈ l, g.1 = e.Row)
  | [], f, g, h, hf => by simp only [gA, List.mem_singleton] at h; subst h; exact ⟨hf, .inl rfl⟩
  | e :: l, f, g, h, hf => by
    unfold gA at h
    split at h
    · obtain ⟨h1, h2⟩ := gA_mem h (by simp)
      exact ⟨h1, h2.imp id fun ⟨x, hx, hx'⟩ => ⟨x, by simp [hx], hx'⟩⟩
    · rcases List.mem_cons.1 h with rfl | h
      · exact ⟨hf, .inl rfl⟩
      · obtain ⟨h1, h2⟩ := gA_mem (r := e.Row) h (by simp)
        refine ⟨h1, .inr ?_⟩
        rcases h2 with h2 | ⟨x, hx, hx'⟩
        · exact ⟨e, by simp, h2⟩
        · exact ⟨x, by simp [hx], hx'⟩

theorem groups_mem {l : List api_Edge} {g : List api_Value × List api_Jump} (h : g ∈ groups l) : g.2 ≠ [] ∧ ∃ e ∈ l, g.1 = e.Row := by
  cases l with
  | nil => simp [groups] at h
  | cons e l =>
    obtain ⟨h1, h2⟩ := gA_mem h (by simp)
    refine ⟨h1, ?_⟩
    rcases h2 with h2 | ⟨x, hx, hx'⟩
    · exact ⟨e, by simp, h2⟩
    · exact ⟨x, by simp [hx], hx'⟩

end Go.Abs
namespace Go.Abs
open Go
def jumpsOf (l : List api_Edge) (r : List api_Value) : List api_Jump := (l.filter fun e => decide (e.Row = r)).map jE

theorem jumpsOf_append (a b : List api_Edge) (r : List api_Value) : jumpsOf (a ++ b) r = jumpsOf a r ++ jumpsOf b r := by simp [jumpsOf]

theorem jumpsOf_flatJ (q : List api_Value) (f : List api_Jump) (r : List api_Value) : jumpsOf (flatJ q f) r = if q = r then f else [] := by
  induction f with
  | nil => simp [jumpsOf, flatJ]
  | cons j f ih =>
    have h1 : flatJ q (j :: f) = [⟨q, j.At, j.Net⟩] ++ flatJ q f := rfl
    rw [h1, jumpsOf_append, ih]
    by_cases h : q = r <;> simp [jumpsOf, jE, h]

def look : List (List api_Value × List api_Jump) → List api_Value → List api_Jump
  | [], _ => []
  | g :: gs, r => if g.1 = r then g.2 else look gs r

theorem look_cons (g : List api_Value × List api_Jump) (gs : List (List api_Value × List api_Jump)) (r : List api_Value) : look (g :: gs) r = if g.1 = r then g.2 else look gs r := rfl

abbrev ltG (a b : List api_Value × List api_Jump) : Prop := cmpR a.1 b.1 < 0

/-- Rows in their order, each once. -/
abbrev SrtG (gs : List (List api_Value × List api_Jump)) : Prop := gs.Pairwise ltG

abbrev Full (gs : List (List api_Value × List api_Jump)) : Prop := ∀ g ∈ gs, g.2 ≠ []

theorem cmpR_irr {a : List api_Value} : ¬ cmpR a a < 0 := by rw [(cmpR_ord.eq a a).2 rfl]; omega

theorem look_none : ∀ {gs : List (List api_Value × List api_Jump)} {r : List api_Value}, (∀ g ∈ gs, g.1 ≠ r) → look gs r = []
  | [], _, _ => rfl
  | g :: gs, r, h => by
    rw [look_cons]
    rw [if_neg (h g (by simp))]
    exact look_none fun q hq => h q (by simp [hq])

theorem look_cases (gs : List (List api_Value × List api_Jump)) (r : List api_Value) : (look gs r = [] ∧ ∀ g ∈ gs, g.1 ≠ r) ∨ ∃ g ∈ gs, g.1 = r ∧ look gs r = g.2 := by
  induction gs with
  | nil => exact .inl ⟨rfl, by simp⟩
  | cons g gs ih =>
    rw [look_cons]
    by_cases h : g.1 = r
    · rw [if_pos h]; exact .inr ⟨g, by simp, h, rfl⟩
    · rw [if_neg h]
      rcases ih with ⟨h1, h2⟩ | ⟨q, hq, h1, h2⟩
      · refine .inl ⟨h1, fun q hq => ?_⟩
        rcases List.mem_cons.1 hq with rfl | hq
        · exact h
        · exact h2 q hq
      · exact .inr ⟨q, by simp [hq], h1, h2⟩

theorem look_mem {gs : List (List api_Value × List api_Jump)} (hs : SrtG gs) {g : List api_Value × List api_Jump} (hg : g ∈ gs) : look gs g.1 = g.2 := by
  induction gs with
  | nil => simp at hg
  | cons q gs ih =>
    have hs' := List.pairwise_cons.1 hs
    rw [look_cons]
    rcases List.mem_cons.1 hg with rfl | hg
    · rw [if_pos rfl]
    · rw [if_neg (fun e => by have := hs'.1 g hg; simp only [ltG, e] at this; exact cmpR_irr this)]
      exact ih hs'.2 hg

theorem flat_cons (g : List api_Value × List api_Jump) (gs : List (List api_Value × List api_Jump)) : flat (g :: gs) = flatJ g.1 g.2 ++ flat gs := rfl

theorem jumpsOf_flat : ∀ {gs : List (List api_Value × List api_Jump)}, SrtG gs → ∀ r, jumpsOf (flat gs) r = look gs r
  | [], _, r => rfl
  | g :: gs, hs, r => by
    have hs' := List.pairwise_cons.1 hs
    rw [flat_cons, jumpsOf_append, jumpsOf_flatJ, jumpsOf_flat hs'.2, look_cons]
    by_cases h : g.1 = r
    · rw [if_pos h, if_pos h, look_none, List.append_nil]
      intro q hq e
      have := hs'.1 q hq
      simp only [ltG, h, e] at this; exact cmpR_irr this
    · rw [if_neg h, if_neg h]; rfl

theorem tab_ext : ∀ {gs hs : List (List api_Value × List api_Jump)}, SrtG gs → SrtG hs → Full gs → Full hs → (∀ r, look gs r = look hs r) → gs = hs
  | [], [], _, _, _, _, _ => rfl
  | [], h :: hs, _, _, _, fh, he => by
    have := he h.1
    simp only [look_cons, look, if_true] at this
    exact absurd this.symm (fh h (by simp))
  | g :: gs, [], _, _, fg, _, he => by
    have := he g.1
    simp only [look_cons, look, if_true] at this
    exact absurd this (fg g (by simp))
  | g :: gs, h :: hs, sg, sh, fg, fh, he => by
    have sg' := List.pairwise_cons.1 sg
    have sh' := List.pairwise_cons.1 sh
    by_cases e : g.1 = h.1
    · have h2 := he g.1
      simp only [look, if_true, if_pos e.symm] at h2
      have ht : gs = hs := tab_ext sg'.2 sh'.2 (fun q hq => fg q (by simp [hq])) (fun q hq => fh q (by simp [hq])) fun r => by
        by_cases hr : g.1 = r
        · subst hr
          rw [look_none (gs := gs), look_none (gs := hs)]
          · intro q hq e'; have := sh'.1 q hq; simp only [ltG, ← e, e'] at this; exact cmpR_irr this
          · intro q hq e'; have := sg'.1 q hq; simp only [ltG, e'] at this; exact cmpR_irr this
        · have := he r
          simp only [look, if_neg hr, if_neg (fun x => hr (e.trans x))] at this
          exact this
      rw [ht]
      obtain ⟨g1, g2⟩ := g
      obtain ⟨h1, h3⟩ := h
      simp only at e h2
      rw [e, h2]
    · exfalso
      have hne : cmpR g.1 h.1 ≠ 0 := fun x => e ((cmpR_ord.eq _ _).1 x)
      by_cases hlt : cmpR g.1 h.1 < 0
      · have h2 := he g.1
        rw [look_mem sg (by simp), look_none] at h2
        · exact fg g (by simp) h2
        · intro q hq e'
          rcases List.mem_cons.1 hq with rfl | hq
          · exact e e'.symm
          · have := cmpR_ord.trans _ _ _ hlt (sh'.1 q hq)
            rw [e'] at this; exact cmpR_irr this
      · have hlt' : cmpR h.1 g.1 < 0 := (cmpR_ord.anti _ _).2 (by omega)
        have h2 := he h.1
        rw [look_mem sh (by simp), look_none] at h2
        · exact fh h (by simp) h2.symm
        · intro q hq e'
          rcases List.mem_cons.1 hq with rfl | hq
          · exact e e'
          · have := cmpR_ord.trans _ _ _ hlt' (sg'.1 q hq)
            rw [e'] at this; exact cmpR_irr this

theorem eachB_iff {p : List api_Jump → Bool} : ∀ {gs : List (List api_Value × List api_Jump)} {last : Option (List api_Value)}, eachB p last gs = true ↔ (∀ g ∈ gs, rMay g.1 = true ∧ p g.2 = true) ∧ SrtG gs ∧ (∀ q, last = some q → ∀ g ∈ gs, cmpR q g.1 < 0)
  | [], last => by simp [eachB]
  | g :: gs, last => by
    unfold eachB
    simp only [Bool.and_eq_true, eachB_iff (gs := gs), List.mem_cons, List.pairwise_cons]
    constructor
    · rintro ⟨⟨⟨h1, h2⟩, h3⟩, h4, h5, h6⟩
      refine ⟨?_, ⟨fun q hq => h6 _ rfl q hq, h5⟩, ?_⟩
      · rintro q (rfl | hq)
        · exact ⟨h1, h3⟩
        · exact h4 q hq
      · rintro q rfl x (rfl | hx)
        · simpa [ahd] using h2
        · simp only [ahd, decide_eq_true_eq] at h2
          exact cmpR_ord.trans _ _ _ h2 (h6 _ rfl x hx)
    · rintro ⟨h1, ⟨h2, h3⟩, h4⟩
      refine ⟨⟨⟨(h1 g (.inl rfl)).1, ?_⟩, (h1 g (.inl rfl)).2⟩, fun q hq => h1 q (.inr hq), h3, ?_⟩
      · unfold ahd
        split
        · rfl
        · exact decide_eq_true (h4 _ rfl g (.inl rfl))
      · rintro q hq x hx
        cases hq
        exact h2 x hx

theorem groups_full (l : List api_Edge) : Full (groups l) := fun _ hg => (groups_mem hg).1

/-- What a table is. -/
theorem mayE_is {l : List api_Edge} (h : mayE l = true) : l.length ≤ 4096 ∧ (∀ g ∈ groups l, rMay g.1 = true ∧ mayB g.2 = true) ∧ SrtG (groups l) := by
  simp only [mayE, Bool.and_eq_true, decide_eq_true_eq] at h
  obtain ⟨h1, h2, _⟩ := eachB_iff.1 h.2
  exact ⟨h.1, h1, h2⟩

theorem mayE_look {l : List api_Edge} (h : mayE l = true) (r : List api_Value) : mayB (look (groups l) r) = true := by
  rcases look_cases (groups l) r with ⟨h1, _⟩ | ⟨g, hg, _, h1⟩
  · rw [h1]; exact may_nil
  · rw [h1]; exact ((mayE_is h).2.1 g hg).2

theorem mayE_ext {a b : List api_Edge} (ha : mayE a = true) (hb : mayE b = true) (h : ∀ r, look (groups a) r = look (groups b) r) : a = b := by
  rw [← groups_flat a, ← groups_flat b, tab_ext (mayE_is ha).2.2 (mayE_is hb).2.2 (groups_full a) (groups_full b) h]

theorem look_jumps {l : List api_Edge} (h : SrtG (groups l)) (r : List api_Value) : look (groups l) r = jumpsOf l r := by
  rw [← jumpsOf_flat h, groups_flat]

theorem gA_cons (r : List api_Value) (f : List api_Jump) (e : api_Edge) (l : List api_Edge) : gA r f (e :: l) = if e.Row = r then gA r (f ++ [jE e]) l else (r, f) :: gA e.Row [jE e] l := rfl

theorem gA_flatJ (r : List api_Value) : ∀ (f2 f : List api_Jump) (l : List api_Edge), gA r f (flatJ r f2 ++ l) = gA r (f ++ f2) l
  | [], f, l => by simp [flatJ]
  | j :: f2, f, l => by
    show gA r f (⟨r, j.At, j.Net⟩ :: (flatJ r f2 ++ l)) = _
    rw [gA_cons, if_pos rfl, gA_flatJ r f2]
    simp [jE]

theorem groups_of : ∀ {gs : List (List api_Value × List api_Jump)}, SrtG gs → Full gs → groups (flat gs) = gs
  | [], _, _ => rfl
  | (r, f) :: gs, hs, hf => by
    have hs' := List.pairwise_cons.1 hs
    have hne := hf (r, f) (by simp)
    have ih := groups_of hs'.2 (fun g hg => hf g (by simp [hg]))
    cases f with
    | nil => exact absurd rfl hne
    | cons j f =>
      rw [flat_cons]
      show gA r [jE ⟨r, j.At, j.Net⟩] (flatJ r f ++ flat gs) = _
      rw [gA_flatJ]
      have key : ∀ (F : List api_Jump), gA r F (flat gs) = (r, F) :: groups (flat gs) := by
        intro F
        cases gs with
        | nil => rfl
        | cons g gs =>
          obtain ⟨q, f'⟩ := g
          have hq := hf (q, f') (by simp)
          cases f' with
          | nil => exact absurd rfl hq
          | cons j' f' =>
            have hqr : q ≠ r := fun e => by
              have := hs'.1 (q, j' :: f') (by simp)
              simp only [ltG, e] at this; exact cmpR_irr this
            rw [flat_cons]
            show gA r F (⟨q, j'.At, j'.Net⟩ :: (flatJ q f' ++ flat gs)) = _
            rw [gA, if_neg hqr]
            rfl
      rw [key, ih]
      rfl

def nonE (gs : List (List api_Value × List api_Jump)) : List (List api_Value × List api_Jump) := gs.filter fun g => !g.2.isEmpty

theorem flat_nonE : ∀ (gs : List (List api_Value × List api_Jump)), flat (nonE gs) = flat gs
  | [] => rfl
  | (r, []) :: gs => by
    have : nonE ((r, []) :: gs) = nonE gs := rfl
    rw [this, flat_nonE gs, flat_cons]; rfl
  | (r, j :: f) :: gs => by
    have : nonE ((r, j :: f) :: gs) = (r, j :: f) :: nonE gs := rfl
    rw [this, flat_cons, flat_cons, flat_nonE gs]

theorem nonE_full (gs : List (List api_Value × List api_Jump)) : Full (nonE gs) := by
  intro g hg
  have := (List.mem_filter.1 hg).2
  intro h; rw [h] at this; simp at this

theorem groups_flat_srt {gs : List (List api_Value × List api_Jump)} (hs : SrtG gs) : groups (flat gs) = nonE gs := by
  rw [← flat_nonE]
  exact groups_of (hs.filter _) (nonE_full gs)

theorem look_flat {gs : List (List api_Value × List api_Jump)} (hs : SrtG gs) (r : List api_Value) : look (groups (flat gs)) r = look gs r := by
  have h1 := jumpsOf_flat (gs := nonE gs) (hs.filter _) r
  rw [groups_flat_srt hs, ← h1, ← jumpsOf_flat hs, flat_nonE]

def mapR (by1 : List api_Jump → List api_Jump × Int) (gs : List (List api_Value × List api_Jump)) : List (List api_Value × List api_Jump) := gs.map fun g => (g.1, (by1 g.2).1)

theorem mapR_srt {by1 : List api_Jump → List api_Jump × Int} {gs : List (List api_Value × List api_Jump)} (hs : SrtG gs) : SrtG (mapR by1 gs) := by
  rw [SrtG, mapR, List.pairwise_map]; exact hs

theorem mapR_look {by1 : List api_Jump → List api_Jump × Int} (h0 : (by1 []).1 = []) : ∀ (gs : List (List api_Value × List api_Jump)) (r : List api_Value), look (mapR by1 gs) r = (by1 (look gs r)).1
  | [], r => h0.symm
  | g :: gs, r => by
    show look ((g.1, (by1 g.2).1) :: mapR by1 gs) r = _
    rw [look_cons, look_cons]
    by_cases h : g.1 = r
    · rw [if_pos h, if_pos h]
    · rw [if_neg h, if_neg h]; exact mapR_look h0 gs r

theorem mapG_ok {by1 : List api_Jump → List api_Jump × Int} : ∀ {gs : List (List api_Value × List api_Jump)} {out : List api_Edge}, out.length ≤ 4096 → (mapG by1 gs out).2 = 0 → (∀ g ∈ gs, (by1 g.2).2 = 0) ∧ (mapG by1 gs out).1 = out ++ flat (mapR by1 gs) ∧ (mapG by1 gs out).1.length ≤ 4096
  | [], out, ho, _ => by simp [mapG, mapR, flat, ho]
  | g :: gs, out, ho, h => by
    unfold mapG at h ⊢
    by_cases e1 : (by1 g.2).2 = 0
    · rw [if_neg (by simp [e1])] at h ⊢
      by_cases e2 : 4096 < (out ++ flatJ g.1 (by1 g.2).1).length
      · rw [if_pos e2] at h; simp at h
      · rw [if_neg e2] at h ⊢
        obtain ⟨h1, h2, h3⟩ := mapG_ok (by omega) h
        refine ⟨?_, ?_, h3⟩
        · intro q hq
          rcases List.mem_cons.1 hq with rfl | hq
          · exact e1
          · exact h1 q hq
        · rw [h2]; simp [mapR, flat_cons]
    · rw [if_pos e1] at h; exact absurd h e1

theorem mapG_err {by1 : List api_Jump → List api_Jump × Int} : ∀ {gs : List (List api_Value × List api_Jump)} {out : List api_Edge}, (mapG by1 gs out).2 ≠ 0 → (mapG by1 gs out).1 = []
  | [], out, h => by simp [mapG] at h
  | g :: gs, out, h => by
    unfold mapG at h ⊢
    split
    · rfl
    · rename_i e1
      rw [if_neg e1] at h
      split
      · rfl
      · rename_i e2
        rw [if_neg e2] at h
        exact mapG_err h

/-- What is made of a table: of each row's function. -/
def allE (by1 : List api_Jump → List api_Jump × Int) (l : List api_Edge) : List api_Edge × Int := if mayE l then mapG by1 (groups l) [] else ([], 2)

theorem groups_ok {l : List api_Edge} (hl : okL l) {g : List api_Value × List api_Jump} (hg : g ∈ groups l) : g.1.length ≤ 4398046510976 := by
  obtain ⟨_, e, he, h⟩ := groups_mem hg
  rw [h]; exact hl.2 e he

theorem all_eq {l : List api_Edge} (hl : okL l) {by0 : List api_Jump → Option (List api_Jump × Int)} {by1 : List api_Jump → List api_Jump × Int} (hb : ∀ f, by0 f = some (by1 f)) (h1 : ∀ f, (by1 f).1.length ≤ 1024) : s_edge_all l by0 = some (allE by1 l) := by
  unfold s_edge_all allE
  rw [mayE_eq hl]
  cases h : mayE l
  · rfl
  · simp only [Option.bind_some, Bool.not_true, cond_false, if_true]
    rw [mapped_eq hl (fun g hg => ⟨hb g.2, h1 g.2, groups_ok hl hg⟩)]
    rfl

theorem allE_ok {by1 : List api_Jump → List api_Jump × Int} {l : List api_Edge} (h : (allE by1 l).2 = 0) : mayE l = true ∧ (∀ g ∈ groups l, (by1 g.2).2 = 0) ∧ (allE by1 l).1 = flat (mapR by1 (groups l)) ∧ (allE by1 l).1.length ≤ 4096 := by
  unfold allE at h ⊢
  cases hm : mayE l
  · rw [hm] at h; simp at h
  · rw [hm] at h
    simp only [if_true] at h ⊢
    obtain ⟨h1, h2, h3⟩ := mapG_ok (by simp) h
    exact ⟨trivial, h1, by simpa using h2, h3⟩

theorem allE_look {by1 : List api_Jump → List api_Jump × Int} (h0 : (by1 []).1 = []) {l : List api_Edge} (h : (allE by1 l).2 = 0) (r : List api_Value) : look (groups (allE by1 l).1) r = (by1 (look (groups l) r)).1 := by
  obtain ⟨h1, h2, h3, _⟩ := allE_ok h
  rw [h3, look_flat (mapR_srt (mayE_is h1).2.2), mapR_look h0]

theorem allE_err {by1 : List api_Jump → List api_Jump × Int} (h0 : (by1 []).2 = 0) {l : List api_Edge} (h : (allE by1 l).2 = 0) (r : List api_Value) : (by1 (look (groups l) r)).2 = 0 := by
  obtain ⟨h1, h2, _, _⟩ := allE_ok h
  rcases look_cases (groups l) r with ⟨e, _⟩ | ⟨g, hg, _, e⟩
  · rw [e]; exact h0
  · rw [e]; exact h2 g hg

theorem edgeSame_of {f g : List api_Edge} (hl : okL f) : s_ref10_Same f g = some (decide (f = g)) := by
  unfold s_ref10_Same
  by_cases he : f.length = g.length
  · rw [len_eq he, cond_false]
    unfold ref10_Same_h2
    have := eq_lp (f := f) (g := g) (body := fun s => ref10_Same_l2 f g s) he ?_ ?_ f.length 0 rfl (Nat.zero_le _)
    · simp only [Int.natCast_zero, List.drop_zero] at this
      rw [this]
      by_cases h : f = g <;> simp [h, ref10_Same_j1]
    · intro i x y hx hy
      have hll := hl.1
      obtain ⟨d1, d2, d3, d4⟩ := idx hx (by omega)
      obtain ⟨_, e2, e3, _⟩ := idx hy (by omega)
      have hr := hl.2 x (List.mem_of_getElem? hx)
      simp only [ref10_Same_l2, d1, cond_true, asrt_pos d2, asrt_pos e2, d3, e3, d4, gcall]
      rw [asrt_pos (fun _ => d2), asrt_pos (fun _ => e2), asrt_pos (fun _ => d2), asrt_pos (fun _ => e2), refRowSame_eq x.Row y.Row (by omega)]
      obtain ⟨x1, x2, x3⟩ := x
      obtain ⟨y1, y2, y3⟩ := y
      by_cases h1 : x2 = y2 <;> by_cases h2 : x3 = y3 <;> by_cases h3 : x1 = y1 <;> simp [h1, h2, h3]
    · simp only [ref10_Same_l2, idx_end, cond_false]
  · rw [len_ne he, cond_true]
    have : f ≠ g := fun h => he (by rw [h])
    simp [this]

end Go.Abs
namespace Go.Abs
theorem ins_instE : @s_slices_insertionSortCmpFunc_api_Edge = @gs_insertionSort api_Edge _ := rfl

theorem step_instE : @slices_symMergeCmpFunc_api_Edge_step = @g_symMerge_step api_Edge _ := rfl

theorem at_instE (cmp) : ∀ k, @slices_symMergeCmpFunc_api_Edge_at cmp k = @g_symMerge_at api_Edge _ cmp k
  | 0 => rfl
  | k + 1 => by
    show slices_symMergeCmpFunc_api_Edge_step cmp _ = g_symMerge_step cmp _
    rw [at_instE cmp k, step_instE]

theorem sym_instE : @s_slices_symMergeCmpFunc_api_Edge = @gs_symMerge api_Edge _ := by
  funext d a m b cmp
  unfold s_slices_symMergeCmpFunc_api_Edge gs_symMerge
  simp only [at_instE]

theorem stable_instE : @s_slices_stableCmpFunc_api_Edge = @gs_stable api_Edge _ := by
  funext d n cmp
  unfold s_slices_stableCmpFunc_api_Edge gs_stable slices_stableCmpFunc_api_Edge_h6 g_stable_h6
  unfold slices_stableCmpFunc_api_Edge_l6 g_stable_l6 slices_stableCmpFunc_api_Edge_j1 g_stable_j1
  unfold slices_stableCmpFunc_api_Edge_h2 g_stable_h2 slices_stableCmpFunc_api_Edge_l2 g_stable_l2
  unfold slices_stableCmpFunc_api_Edge_h5 g_stable_h5 slices_stableCmpFunc_api_Edge_l5 g_stable_l5
  unfold slices_stableCmpFunc_api_Edge_j3 g_stable_j3
  rw [sym_instE, ins_instE]
  rfl

end Go.Abs
namespace Go.Abs
open Go
theorem containsE_eq {l : List api_Edge} {f : api_Edge → Option Bool} {g : api_Edge → Bool} (hl : l.length ≤ 1099511627776) (hf : ∀ x ∈ l, f x = some (g x)) : s_slices_ContainsFunc_api_Edge_api_Edge l f = some (l.any g) := by
  unfold s_slices_ContainsFunc_api_Edge_api_Edge s_slices_IndexFunc_api_Edge_api_Edge slices_IndexFunc_api_Edge_api_Edge_h2
  obtain ⟨x, e, hx⟩ := index_lp hl hf l 0 rfl (Nat.zero_le _)
  have e' : lp (fun s => slices_IndexFunc_api_Edge_api_Edge_l2 f l (l.length : Nat) s) 0 = some x := e
  rw [e']
  rcases hx with ⟨rfl, h⟩ | ⟨i, rfl, _, _, h, _⟩
  · simp [slices_IndexFunc_api_Edge_api_Edge_j1, h]
  · simp [h]

def unE (e : api_Edge) : Bool := ((!rMay e.Row) || (decide ((1048576 : Int) < e.Net))) || (decide (e.Net < (-1048576 : Int)))

def outE (e : api_Edge) : Bool := (decide (e.At < (-1 : Int))) || (decide ((1125899906842624 : Int) < e.At))

def cmpE (x y : api_Edge) : Int := if cmpR x.Row y.Row ≠ 0 then cmpR x.Row y.Row else cmpI x.At y.At

abbrev okE (x : api_Edge) : Prop := rMay x.Row = true

abbrev leE (x y : api_Edge) : Prop := cmpR x.Row y.Row < 0 ∨ (x.Row = y.Row ∧ x.At ≤ y.At)

theorem or_eq (a b : Int) : s_cmp_Or_int [a, b] = some (if a ≠ 0 then a else b) := by
  unfold s_cmp_Or_int cmp_Or_int_h2
  have w1 : IntKind.i64.wrap (1 : Int) = 1 := by rw [wrap_in] <;> omega
  have w2 : IntKind.i64.wrap (2 : Int) = 2 := by rw [wrap_in] <;> omega
  have b0 : (fun s => cmp_Or_int_l2 0 [a, b] (([a, b] : List Int).length : Nat) s) (0 : Int) = some (if a ≠ 0 then .inr (.inr a) else .inl 1) := by
    show cmp_Or_int_l2 _ _ _ _ = _
    unfold cmp_Or_int_l2
    rw [asrt_pos ⟨by omega, by simp⟩]
    by_cases h : a = 0 <;> simp [h, w1]
  have b1 : (fun s => cmp_Or_int_l2 0 [a, b] (([a, b] : List Int).length : Nat) s) (1 : Int) = some (if b ≠ 0 then .inr (.inr b) else .inl 2) := by
    show cmp_Or_int_l2 _ _ _ _ = _
    unfold cmp_Or_int_l2
    rw [asrt_pos ⟨by omega, by simp⟩]
    by_cases h : b = 0 <;> simp [h, w2]
  have b2 : (fun s => cmp_Or_int_l2 0 [a, b] (([a, b] : List Int).length : Nat) s) (2 : Int) = some (.inr (.inl ())) := by
    show cmp_Or_int_l2 _ _ _ _ = _
    unfold cmp_Or_int_l2
    simp
  by_cases h : a = 0
  · rw [if_neg (by simp [h])] at b0
    rw [lp_next b0]
    by_cases h2 : b = 0
    · rw [if_neg (by simp [h2])] at b1
      rw [lp_next b1, lp_last b2]
      simp [cmp_Or_int_j1, h, h2]
    · rw [if_pos h2] at b1
      rw [lp_last b1]
      simp [h]
  · rw [if_pos h] at b0
    rw [lp_last b0]
    simp [h]

theorem cmpE_eq {x y : api_Edge} (hx : okE x) (hy : okE y) : s_edge_Norm_3 x y = some (cmpE x y) := by
  unfold s_edge_Norm_3 cmpE
  rw [rowCmp_eq, hx, hy]
  simp only [Bool.and_self, if_true, Option.bind_some, cmpInt_eq, or_eq]

theorem cmpE_lt (x y : api_Edge) : cmpE x y < 0 ↔ ¬ leE y x := by
  unfold cmpE leE
  have ha := cmpR_ord.anti x.Row y.Row
  have hb := cmpR_ord.anti y.Row x.Row
  have he := cmpR_ord.eq x.Row y.Row
  by_cases h : cmpR x.Row y.Row = 0
  · rw [if_neg (by simp [h])]
    have e := he.1 h
    have : ¬ cmpR y.Row x.Row < 0 := by rw [e]; exact cmpR_irr
    unfold cmpI
    constructor
    · intro h1 h2
      rcases h2 with h2 | ⟨_, h2⟩
      · exact this h2
      · split at h1
        · omega
        · split at h1 <;> omega
    · intro h1
      have : ¬ y.At ≤ x.At := fun h2 => h1 (.inr ⟨e.symm, h2⟩)
      rw [if_pos (by omega)]; omega
  · rw [if_pos h]
    have hne : y.Row ≠ x.Row := fun e => h (he.2 e.symm)
    constructor
    · intro h1 h2
      rcases h2 with h2 | ⟨h2, _⟩
      · have := hb.1 h2; omega
      · exact hne h2
    · intro h1
      have : ¬ cmpR y.Row x.Row < 0 := fun h2 => h1 (.inl h2)
      rw [hb] at this
      omega

theorem leE_total (x y : api_Edge) : leE x y ∨ leE y x := by
  unfold leE
  by_cases h : cmpR x.Row y.Row = 0
  · have e := (cmpR_ord.eq _ _).1 h
    rcases Int.le_total x.At y.At with h1 | h1
    · exact .inl (.inr ⟨e, h1⟩)
    · exact .inr (.inr ⟨e.symm, h1⟩)
  · by_cases h1 : cmpR x.Row y.Row < 0
    · exact .inl (.inl h1)
    · exact .inr (.inl ((cmpR_ord.anti _ _).2 (by omega)))

theorem leE_trans {x y z : api_Edge} (h1 : leE x y) (h2 : leE y z) : leE x z := by
  rcases h1 with h1 | ⟨e1, h1⟩ <;> rcases h2 with h2 | ⟨e2, h2⟩
  · exact .inl (cmpR_ord.trans _ _ _ h1 h2)
  · exact .inl (e2 ▸ h1)
  · exact .inl (e1.symm ▸ h2)
  · exact .inr ⟨e1.trans e2, by omega⟩

theorem cmpEC : Cmp okE leE (fun y0 y1 => s_edge_Norm_3 y0 y1) where
  ans x y hx hy := ⟨_, cmpE_eq hx hy, cmpE_lt x y⟩
  trans x y z _ _ _ h1 h2 := leE_trans h1 h2
  total x y _ _ := leE_total x y

theorem sortE {l : List api_Edge} (hl : l.length ≤ 1099511627776) (ho : ∀ e ∈ l, okE e) : ∃ r, r.Perm l ∧ Srt leE r ∧ s_slices_SortStableFunc_api_Edge_api_Edge l (fun y0 y1 => s_edge_Norm_3 y0 y1) = some r := by
  obtain ⟨r, r1, r2, r3⟩ := stable_ok cmpEC (d := l) ho hl
  refine ⟨r, r1, r2, ?_⟩
  unfold s_slices_SortStableFunc_api_Edge_api_Edge
  rw [stable_instE, r3]; rfl

theorem gA_srt : ∀ {l : List api_Edge} {r : List api_Value} {f : List api_Jump}, Srt leE l → (∀ e ∈ l, e.Row = r ∨ cmpR r e.Row < 0) → SrtG (gA r f l) ∧ ∀ g ∈ gA r f l, g.1 = r ∨ cmpR r g.1 < 0
  | [], r, f, _, _ => by simp [gA]
  | e :: l, r, f, hs, hr => by
    have hs' := List.pairwise_cons.1 hs
    rw [gA_cons]
    by_cases h : e.Row = r
    · rw [if_pos h]
      exact gA_srt hs'.2 (fun x hx => hr x (by simp [hx]))
    · rw [if_neg h]
      have hlt : cmpR r e.Row < 0 := (hr e (by simp)).resolve_left h
      obtain ⟨h1, h2⟩ := gA_srt (r := e.Row) (f := [jE e]) hs'.2 (fun x hx => by
        rcases hs'.1 x hx with h | ⟨h, _⟩
        · exact .inr h
        · exact .inl h.symm)
      have key : ∀ g ∈ gA e.Row [jE e] l, cmpR r g.1 < 0 := fun g hg => by
        rcases h2 g hg with h | h
        · rw [h]; exact hlt
        · exact cmpR_ord.trans _ _ _ hlt h
      refine ⟨List.pairwise_cons.2 ⟨key, h1⟩, ?_⟩
      intro g hg
      rcases List.mem_cons.1 hg with rfl | hg
      · exact .inl rfl
      · exact .inr (key g hg)

theorem groups_srt {l : List api_Edge} (hs : Srt leE l) : SrtG (groups l) := by
  cases l with
  | nil => exact List.Pairwise.nil
  | cons e l =>
    have hs' := List.pairwise_cons.1 hs
    exact (gA_srt hs'.2 (fun x hx => by
      rcases hs'.1 x hx with h | ⟨h, _⟩
      · exact .inr h
      · exact .inl h.symm)).1

abbrev SrtR (rs : List (List api_Value)) : Prop := rs.Pairwise fun a b => cmpR a b < 0

def insR (r : List api_Value) : List (List api_Value) → List (List api_Value)
  | [] => [r]
  | x :: xs => if cmpR x r < 0 then x :: insR r xs else if x = r then x :: xs else r :: x :: xs

def rowsOf (l : List api_Edge) : List (List api_Value) := l.foldl (fun rs e => insR e.Row rs) []

theorem insR_mem {r x : List api_Value} : ∀ {rs : List (List api_Value)}, x ∈ insR r rs ↔ x = r ∨ x ∈ rs
  | [] => by simp [insR]
  | y :: ys => by
    unfold insR
    split
    · simp only [List.mem_cons, insR_mem (rs := ys)]
      constructor
      · rintro (h | h | h)
        · exact .inr (.inl h)
        · exact .inl h
        · exact .inr (.inr h)
      · rintro (h | h | h)
        · exact .inr (.inl h)
        · exact .inl h
        · exact .inr (.inr h)
    · split
      · rename_i h; subst h; simp
      · simp

theorem insR_srt {r : List api_Value} : ∀ {rs : List (List api_Value)}, SrtR rs → SrtR (insR r rs)
  | [], _ => by simp [insR]
  | y :: ys, hs => by
    have hs' := List.pairwise_cons.1 hs
    unfold insR
    split
    · rename_i h
      refine List.pairwise_cons.2 ⟨fun z hz => ?_, insR_srt hs'.2⟩
      rcases insR_mem.1 hz with rfl | hz
      · exact h
      · exact hs'.1 z hz
    · rename_i h
      split
      · exact hs
      · rename_i hne
        have hlt : cmpR r y < 0 := by
          have h0 : cmpR y r ≠ 0 := fun e => hne ((cmpR_ord.eq _ _).1 e)
          exact (cmpR_ord.anti _ _).2 (by omega)
        refine List.pairwise_cons.2 ⟨fun z hz => ?_, hs⟩
        rcases List.mem_cons.1 hz with rfl | hz
        · exact hlt
        · exact cmpR_ord.trans _ _ _ hlt (hs'.1 z hz)

theorem rows_fold : ∀ (l : List api_Edge) (rs : List (List api_Value)), SrtR rs → SrtR (l.foldl (fun rs e => insR e.Row rs) rs) ∧ ∀ x, x ∈ l.foldl (fun rs e => insR e.Row rs) rs ↔ x ∈ rs ∨ ∃ e ∈ l, e.Row = x
  | [], rs, hs => ⟨hs, by simp⟩
  | e :: l, rs, hs => by
    obtain ⟨h1, h2⟩ := rows_fold l (insR e.Row rs) (insR_srt hs)
    refine ⟨h1, fun x => ?_⟩
    simp only [List.foldl_cons]
    rw [h2 x, insR_mem]
    simp only [List.mem_cons, exists_eq_or_imp]
    constructor
    · rintro ((h | h) | h)
      · exact .inr (.inl h.symm)
      · exact .inl h
      · exact .inr (.inr h)
    · rintro (h | h | h)
      · exact .inl (.inr h)
      · exact .inl (.inl h.symm)
      · exact .inr h

theorem rowsOf_srt (l : List api_Edge) : SrtR (rowsOf l) := (rows_fold l [] List.Pairwise.nil).1

theorem rowsOf_mem {l : List api_Edge} {x : List api_Value} : x ∈ rowsOf l ↔ ∃ e ∈ l, e.Row = x := by
  have := (rows_fold l [] List.Pairwise.nil).2 x
  simpa [rowsOf] using this

theorem srtR_ext : ∀ {a b : List (List api_Value)}, SrtR a → SrtR b → (∀ x, x ∈ a ↔ x ∈ b) → a = b
  | [], [], _, _, _ => rfl
  | [], y :: ys, _, _, h => absurd ((h y).2 (by simp)) (by simp)
  | x :: xs, [], _, _, h => absurd ((h x).1 (by simp)) (by simp)
  | x :: xs, y :: ys, ha, hb, h => by
    have ha' := List.pairwise_cons.1 ha
    have hb' := List.pairwise_cons.1 hb
    have e : x = y := by
      rcases List.mem_cons.1 ((h x).1 (by simp)) with h1 | h1
      · exact h1
      · rcases List.mem_cons.1 ((h y).2 (by simp)) with h2 | h2
        · exact h2.symm
        · exact absurd (cmpR_ord.trans _ _ _ (hb'.1 x h1) (ha'.1 y h2)) cmpR_irr
    subst e
    rw [srtR_ext ha'.2 hb'.2 fun z => ?_]
    constructor
    · intro hz
      rcases List.mem_cons.1 ((h z).1 (by simp [hz])) with h1 | h1
      · subst h1; exact absurd (ha'.1 z hz) cmpR_irr
      · exact h1
    · intro hz
      rcases List.mem_cons.1 ((h z).2 (by simp [hz])) with h1 | h1
      · subst h1; exact absurd (hb'.1 z hz) cmpR_irr
      · exact h1

def gsOf (l : List api_Edge) : List (List api_Value × List api_Jump) := (rowsOf l).map fun r => (r, jumpsOf l r)

theorem jumpsOf_perm {a b : List api_Edge} (h : a.Perm b) (r : List api_Value) : (jumpsOf a r).Perm (jumpsOf b r) := (h.filter _).map _

/-- The runs of edges in their order: the rows, each with its jumps. -/
theorem groups_rows {l l' : List api_Edge} (hp : l'.Perm l) (hs : Srt leE l') : (groups l').map (·.1) = rowsOf l := by
  refine srtR_ext ?_ (rowsOf_srt l) fun x => ?_
  · rw [SrtR, List.pairwise_map]; exact groups_srt hs
  · rw [rowsOf_mem]
    constructor
    · intro h
      obtain ⟨g, hg, rfl⟩ := List.mem_map.1 h
      obtain ⟨_, e, he, h1⟩ := groups_mem hg
      exact ⟨e, hp.mem_iff.1 he, h1.symm⟩
    · rintro ⟨e, he, rfl⟩
      have he' : e ∈ flat (groups l') := by rw [groups_flat]; exact hp.mem_iff.2 he
      obtain ⟨g, hg, h1⟩ := List.mem_flatMap.1 he'
      obtain ⟨j, _, rfl⟩ := List.mem_map.1 h1
      exact List.mem_map.2 ⟨g, hg, rfl⟩

theorem normL_up {l : List api_Jump} (ht : ∀ j ∈ l, -2 < j.At) : Up (-2) (normL l) :=
  toldL_up (by rw [List.map_map]; simpa [Function.comp_def] using normL_inc ht)

theorem normL_val {l : List api_Jump} (ht : ∀ j ∈ l, -2 < j.At) {t : Int} (h1 : -2 < t) (h2 : t < 1125899906842624) : val (normL l) t = val l t := by
  have h0 : val l (-2) = 0 := val_above fun j hj => ht j hj
  have := toldL_val (F := val l) (normL_inc ht) (fun s t' _ hst hlt hn => val_const hst fun j hj hc => hn j.At (putL_mem.2 (Or.inr ⟨j, List.mem_filter.2 ⟨hj, by simp; omega⟩, rfl⟩)) hc) t (by omega) h2
  rw [h0] at this
  unfold normL
  rw [this]; omega

theorem normL_perm {f g : List api_Jump} (h : f.Perm g) (hf : f.any outT = false) : normL f = normL g := by
  have hg : ∀ j ∈ g, -2 < j.At := fun j hj => (any_outT hf j (h.mem_iff.2 hj)).1
  exact normL_is (fun j hj => (any_outT hf j hj).1) (normL_up hg) fun t h1 h2 => by rw [normL_val hg h1 h2, val_perm h]

theorem any_perm {f g : List api_Jump} (h : f.Perm g) (p : api_Jump → Bool) : f.any p = g.any p := by
  cases h1 : g.any p
  · rw [List.any_eq_false] at h1 ⊢
    exact fun x hx => h1 x (h.mem_iff.1 hx)
  · obtain ⟨x, hx, hp⟩ := List.any_eq_true.1 h1
    exact List.any_eq_true.2 ⟨x, h.mem_iff.2 hx, hp⟩

theorem normF_perm {f g : List api_Jump} (h : f.Perm g) : normF f = normF g := by
  unfold normF
  rw [any_perm h unfair, any_perm h outT]
  split
  · rfl
  · split
    · rfl
    · rename_i h2
      rw [normL_perm h (by rw [any_perm h outT]; simpa using h2)]

theorem normF_len (l : List api_Jump) : (normF l).1.length ≤ 1024 := by
  unfold normF
  split
  · simp
  · split
    · simp
    · exact told_len _

theorem mapG_congr {by1 : List api_Jump → List api_Jump × Int} : ∀ {gs hs : List (List api_Value × List api_Jump)} {out : List api_Edge}, gs.map (fun g => (g.1, by1 g.2)) = hs.map (fun g => (g.1, by1 g.2)) → mapG by1 gs out = mapG by1 hs out
  | [], [], _, _ => rfl
  | [], _ :: _, _, h => by simp at h
  | _ :: _, [], _, h => by simp at h
  | g :: gs, k :: hs, out, h => by
    simp only [List.map_cons, List.cons.injEq, Prod.mk.injEq] at h
    obtain ⟨⟨h1, h2⟩, h3⟩ := h
    unfold mapG
    rw [h1, h2]
    split
    · rfl
    · split
      · rfl
      · exact mapG_congr h3

theorem groups_norm {l l' : List api_Edge} (hp : l'.Perm l) (hs : Srt leE l') : (groups l').map (fun g => (g.1, normF g.2)) = (gsOf l).map (fun g => (g.1, normF g.2)) := by
  have h1 : (groups l').map (fun g => (g.1, normF g.2)) = ((groups l').map (·.1)).map (fun r => (r, normF (jumpsOf l r))) := by
    rw [List.map_map]
    apply List.map_congr_left
    intro g hg
    have hj : g.2 = jumpsOf l' g.1 := by rw [← look_jumps (groups_srt hs), look_mem (groups_srt hs) hg]
    simp only [Function.comp]
    rw [hj, normF_perm (jumpsOf_perm hp g.1)]
  rw [h1, groups_rows hp hs, gsOf, List.map_map]
  rfl

/-- Edges put together. -/
def normE (l : List api_Edge) : List api_Edge × Int := if l.any unE then ([], 2) else if l.any outE then ([], 13) else mapG normF (gsOf l) []

theorem any_unE {l : List api_Edge} (h : l.any unE = false) : ∀ e ∈ l, rMay e.Row = true ∧ e.Net ≤ 1048576 ∧ -1048576 ≤ e.Net := by
  intro e he
  have := List.any_eq_false.1 h e he
  simp only [unE, Bool.or_eq_true, not_or, Bool.not_eq_true', decide_eq_true_eq, Bool.not_eq_false, Bool.not_eq_true] at this
  exact ⟨by simpa using this.1.1, by omega, by omega⟩

theorem normE_eq {l : List api_Edge} (hl : okL l) (hn : l.length ≤ 1099511627776) : s_edge_Norm l = some (normE l) := by
  unfold s_edge_Norm normE
  rw [containsE_eq (g := unE) hn (fun x _ => by simp [s_edge_Norm_1, rMay_eq, unE])]
  simp only [Option.bind_some]
  cases h1 : l.any unE
  · rw [containsE_eq (f := fun y0 => s_edge_Norm_2 y0) (g := outE) hn (fun x _ => rfl)]
    simp only [cond_false, Option.bind_some, Bool.false_eq_true, if_false]
    cases h2 : l.any outE
    · simp only [cond_false, Bool.false_eq_true, if_false]
      have hc : s_slices_Clone_api_Edge_api_Edge l = some l := by unfold s_slices_Clone_api_Edge_api_Edge; exact asrt_pos ⟨by omega, by omega⟩
      obtain ⟨r, r1, r2, r3⟩ := sortE hn (fun e he => (any_unE h1 e he).1)
      rw [hc]
      simp only [Option.bind_some]
      rw [r3]
      simp only [Option.bind_some]
      have hr : okL r := ⟨by rw [r1.length_eq]; exact hl.1, fun e he => hl.2 e (r1.mem_iff.1 he)⟩
      rw [mapped_eq hr (by1 := normF) (fun g hg => ⟨by
        unfold s_edge_Norm_4
        have hgl : g.2.length ≤ 1099511627776 := by
          have h3 : g.2 = jumpsOf r g.1 := by rw [← look_jumps (groups_srt r2), look_mem (groups_srt r2) hg]
          rw [h3, jumpsOf, List.length_map]
          exact Nat.le_trans (List.length_filter_le _ _) (by rw [r1.length_eq]; exact hn)
        rw [norm_eq hgl]; rfl, normF_len _, groups_ok hr hg⟩)]
      simp only [Option.bind_some]
      rw [mapG_congr (groups_norm r1 r2)]
    · simp
  · simp

end Go.Abs
namespace Go.Abs
open Go
theorem sumLen_lp {ls : List (List api_Edge)} (hl : ls.length ≤ 1000) (hb : ∀ l ∈ ls, l.length ≤ 1000000) : lp (fun s : Int × Int => slices_Concat_api_Edge_api_Edge_l4 ls ls (ls.length : Nat) s.1 s.2) (0, 0) = some (((ls.map List.length).sum : Nat) : Int) := by
  have := lp_suf0 (l := ls) (body := fun s : Int × Int => slices_Concat_api_Edge_api_Edge_l4 ls ls (ls.length : Nat) s.1 s.2) (fun (n : Nat) i => ((n : Int), i)) (fun n r => ((n + (r.map List.length).sum : Nat) : Int)) (fun n r => n + 1000000 * r.length ≤ 1000000000 ∧ ∀ x ∈ r, x.length ≤ 1000000) 0 ?_ ?_ ⟨by omega, hb⟩
  · simpa using this
  · rintro i a r n ha ⟨h1, h2⟩
    left
    obtain ⟨d1, d2, d3, d4⟩ := idx ha (by omega)
    simp only [List.length_cons] at h1
    have h3 := h2 a (by simp)
    have hw : IntKind.i64.wrap ((n : Int) + ((a.length : Nat) : Int)) = ((n + a.length : Nat) : Int) := by rw [wrap_in (by omega) (by omega)]; omega
    refine ⟨n + a.length, ?_, ⟨by omega, fun x hx => h2 x (by simp [hx])⟩, by simp; omega⟩
    show slices_Concat_api_Edge_api_Edge_l4 _ _ _ _ _ = _
    have hz : decide (((n + a.length : Nat) : Int) < 0) = false := by simp; omega
    simp only [slices_Concat_api_Edge_api_Edge_l4, d1, cond_true, asrt_pos d2, d3, d4, hw, hz, cond_false]
  · rintro n _
    show slices_Concat_api_Edge_api_Edge_l4 _ _ _ _ _ = _
    simp only [slices_Concat_api_Edge_api_Edge_l4, idx_end, cond_false]
    simp

theorem grow_eq {n : Nat} (h : n ≤ 1000000000) : s_slices_Grow_api_Edge_api_Edge (n : Int) = some [] := by
  unfold s_slices_Grow_api_Edge_api_Edge
  have h1 : decide ((n : Int) < 0) = false := by simp
  have w0 : IntKind.i64.wrap ((0 : Int) - ((0 : Nat) : Int)) = 0 := by rw [wrap_in] <;> omega
  have w1 : IntKind.i64.wrap ((n : Int) - 0) = (n : Int) := by rw [wrap_in (by omega) (by omega)]; omega
  simp only [h1, cond_false, w0, w1]
  by_cases h2 : (0 : Int) < (n : Int)
  · rw [decide_eq_true h2, cond_true, asrt_pos ⟨by omega, by omega⟩, asrt_pos ⟨by omega, by simp only [Int.toNat_natCast]; omega, by omega⟩, asrt_pos ⟨by omega, by omega⟩]
    rfl
  · rw [decide_eq_false h2, cond_false]; rfl

theorem concat_lp {ls : List (List api_Edge)} (hl : ls.length ≤ 1000) (hb : ∀ l ∈ ls, l.length ≤ 1000000) : lp (fun s : List api_Edge × Int => slices_Concat_api_Edge_api_Edge_l3 ls (ls.length : Nat) s.1 s.2) ([], 0) = some ls.flatten := by
  have := lp_suf0 (l := ls) (body := fun s : List api_Edge × Int => slices_Concat_api_Edge_api_Edge_l3 ls (ls.length : Nat) s.1 s.2) (fun o i => (o, i)) (fun o r => o ++ r.flatten) (fun o r => o.length + 1000000 * r.length ≤ 1000000000 ∧ ∀ x ∈ r, x.length ≤ 1000000) [] ?_ ?_ ⟨by simp; omega, hb⟩
  · simpa using this
  · rintro i a r o ha ⟨h1, h2⟩
    left
    obtain ⟨d1, d2, d3, d4⟩ := idx ha (by omega)
    simp only [List.length_cons] at h1
    have h3 := h2 a (by simp)
    refine ⟨o ++ a, ?_, ⟨by simp; omega, fun x hx => h2 x (by simp [hx])⟩, by simp⟩
    show slices_Concat_api_Edge_api_Edge_l3 _ _ _ _ = _
    simp only [slices_Concat_api_Edge_api_Edge_l3, d1, cond_true, asrt_pos d2, d3, d4]
    exact asrt_pos ⟨by omega, by omega⟩
  · rintro o _
    show slices_Concat_api_Edge_api_Edge_l3 _ _ _ _ = _
    simp only [slices_Concat_api_Edge_api_Edge_l3, idx_end, cond_false]
    simp

theorem concat_eq {a b : List api_Edge} (ha : a.length ≤ 1000000) (hb : b.length ≤ 1000000) : s_slices_Concat_api_Edge_api_Edge [a, b] = some (a ++ b) := by
  have hx : ∀ l ∈ [a, b], l.length ≤ 1000000 := by simp [ha, hb]
  unfold s_slices_Concat_api_Edge_api_Edge slices_Concat_api_Edge_api_Edge_h4
  rw [sumLen_lp (by simp) hx]
  simp only [Option.bind_some, slices_Concat_api_Edge_api_Edge_j1]
  rw [grow_eq (by simp; omega)]
  simp only [Option.bind_some, slices_Concat_api_Edge_api_Edge_h3]
  rw [concat_lp (by simp) hx]
  simp [slices_Concat_api_Edge_api_Edge_j2]

def addE (a b : List api_Edge) : List api_Edge × Int := if mayE a && mayE b then normE (a ++ b) else ([], 2)

theorem okL_append {a b : List api_Edge} (ha : okL a) (hb : okL b) (h : a.length + b.length ≤ 3518437208783) : okL (a ++ b) :=
  ⟨by simpa using h, fun e he => by
    rcases List.mem_append.1 he with h | h
    · exact ha.2 e h
    · exact hb.2 e h⟩

theorem add_eqE {a b : List api_Edge} (ha : okL a) (hb : okL b) : s_edge_Add a b = some (addE a b) := by
  unfold s_edge_Add addE
  rw [mayE_eq ha]
  cases h1 : mayE a
  · simp [gcall]
  · simp only [Option.bind_some, Bool.not_true, Bool.not_false, gcall, cond_true, mayE_eq hb, Bool.false_or]
    cases h2 : mayE b
    · simp
    · have la := (mayE_is h1).1
      have lb := (mayE_is h2).1
      simp only [Bool.not_true, cond_false, Bool.and_self, if_true]
      rw [concat_eq (by omega) (by omega)]
      simp only [Option.bind_some]
      rw [normE_eq (okL_append ha hb (by omega)) (by simp; omega)]
      rfl

def spanB (s : api_Span) : Bool := (decide (0 ≤ s.From) && decide (s.From ≤ 1125899906842624)) && (decide (0 ≤ s.To) && decide (s.To ≤ 1125899906842624)) && decide (s.From < s.To)

def ofE (r : List api_Value) (s : api_Span) : List api_Edge × Int := if !rMay r then ([], 2) else if !spanB s then ([], 14) else normE [⟨r, s.From, 1⟩, ⟨r, s.To, -1⟩]

theorem spanMay_eq (s : api_Span) : s_span_May s = some (spanB s) := by
  unfold s_span_May s_span_tick spanB
  simp only [Option.bind_some]
  cases h : (decide (0 ≤ s.From) && decide (s.From ≤ 1125899906842624)) <;> simp [gcall]

theorem of_eqE {r : List api_Value} (hr : r.length ≤ 4398046510976) (s : api_Span) : s_edge_Of r s = some (ofE r s) := by
  unfold s_edge_Of ofE
  rw [rMay_eq]
  cases h1 : rMay r
  · simp
  · simp only [Option.bind_some, Bool.not_true, cond_false, spanMay_eq, Bool.false_eq_true, if_false]
    cases h2 : spanB s
    · simp
    · simp only [Bool.not_true, cond_false, Bool.false_eq_true, if_false]
      rw [normE_eq ⟨by simp, by simp [hr]⟩ (by simp)]
      rfl

def vL : api_Value := ⟨1, 1, ByteArray.empty⟩

theorem okL_of {l : List api_Edge} (h : l.length ≤ 4096) (hr : ∀ e ∈ l, e.Row.length ≤ 8) : okL l := ⟨by omega, fun e he => by have := hr e he; omega⟩

theorem live1 : ofE [vL] ⟨2, 5⟩ = ([⟨[vL], 2, 1⟩, ⟨[vL], 5, -1⟩], 0) := by decide +kernel

theorem live2 : ofE [vL] ⟨5, 9⟩ = ([⟨[vL], 5, 1⟩, ⟨[vL], 9, -1⟩], 0) := by decide +kernel

theorem live3 : addE [⟨[vL], 2, 1⟩, ⟨[vL], 5, -1⟩] [⟨[vL], 5, 1⟩, ⟨[vL], 9, -1⟩] = ([⟨[vL], 2, 1⟩, ⟨[vL], 9, -1⟩], 0) := by decide +kernel

theorem live4 : tableE [⟨[vL], 2, 1⟩, ⟨[vL], 9, -1⟩] = true := by decide +kernel

theorem live_eqE : s_law10_live = some true := by
  unfold s_law10_live
  have h1 := (of_eqE (r := [vL]) (by simp) ⟨2, 5⟩).trans (congrArg some live1)
  have h2 := (of_eqE (r := [vL]) (by simp) ⟨5, 9⟩).trans (congrArg some live2)
  unfold vL at h1 h2
  rw [h1, h2]
  simp only [Option.bind_some]
  have k1 : okL [⟨[vL], 2, 1⟩, ⟨[vL], 5, -1⟩] := okL_of (by simp) (by simp)
  have k2 : okL [⟨[vL], 5, 1⟩, ⟨[vL], 9, -1⟩] := okL_of (by simp) (by simp)
  have h3 := (add_eqE k1 k2).trans (congrArg some live3)
  have h4 := (tableE_eq (l := [⟨[vL], 2, 1⟩, ⟨[vL], 9, -1⟩]) (okL_of (by simp) (by simp))).trans (congrArg some live4)
  have h5 : s_edge_May [] = some true := (mayE_eq (l := []) (okL_of (by simp) (by simp))).trans (by decide +kernel)
  unfold vL at h3 h4
  rw [h3]
  simp only [Option.bind_some]
  rw [h4, h5]
  simp [gcall, asrt_pos]

end Go.Abs
namespace Go.Abs
open Go
theorem okL_nil : okL [] := ⟨by simp, by simp⟩

theorem okL_flat {gs : List (List api_Value × List api_Jump)} (h : ∀ g ∈ gs, g.1.length ≤ 4398046510976) (hl : (flat gs).length ≤ 4096) : okL (flat gs) := by
  refine ⟨by omega, fun e he => ?_⟩
  obtain ⟨g, hg, h1⟩ := List.mem_flatMap.1 he
  obtain ⟨j, _, rfl⟩ := List.mem_map.1 h1
  exact h g hg

theorem allE_okL {by1 : List api_Jump → List api_Jump × Int} {l : List api_Edge} (hl : okL l) : okL (allE by1 l).1 := by
  by_cases h : (allE by1 l).2 = 0
  · obtain ⟨_, _, h3, h4⟩ := allE_ok h
    rw [h3] at h4 ⊢
    refine okL_flat (fun g hg => ?_) h4
    obtain ⟨q, hq, rfl⟩ := List.mem_map.1 hg
    have := groups_ok hl hq
    exact this
  · unfold allE at h ⊢
    split
    · rename_i hm
      rw [if_pos hm] at h
      rw [mapG_err h]; exact okL_nil
    · exact okL_nil

def aheadE (l : List api_Edge) (t : Int) : List api_Edge × Int := allE (fun f => ahead f t) l

def restE (l : List api_Edge) (t : Int) : List api_Edge × Int := allE (fun f => rest f t) l

theorem aheadE_okL {l : List api_Edge} (hl : okL l) (t : Int) : okL (aheadE l t).1 := allE_okL hl

theorem restE_okL {l : List api_Edge} (hl : okL l) (t : Int) : okL (restE l t).1 := allE_okL hl

theorem ahead_eqE {l : List api_Edge} (hl : okL l) (t : Int) : s_edge_Ahead l t = some (aheadE l t) := by
  unfold s_edge_Ahead aheadE
  rw [all_eq hl (by0 := fun y0 => s_edge_Ahead_1 y0 t) (by1 := fun f => ahead f t) (fun f => by unfold s_edge_Ahead_1; rw [ahead_eq]; rfl) (fun f => ahead_len f t)]
  rfl

theorem rest_eqE {l : List api_Edge} (hl : okL l) (t : Int) : s_edge_Rest l t = some (restE l t) := by
  unfold s_edge_Rest restE
  rw [all_eq hl (by0 := fun y0 => s_edge_Rest_1 y0 t) (by1 := fun f => rest f t) (fun f => by unfold s_edge_Rest_1; rw [rest_eq]; rfl) (fun f => rest_len f t)]
  rfl

theorem ahead_val {f : List api_Jump} {t : Int} (hm : mayB f = true) (ht : t < 1125899906842624) (he : (ahead f t).2 = 0) (p : Int) : val (ahead f t).1 p = if p < t then val f p else 0 := by
  unfold ahead at he ⊢
  rw [if_pos hm, if_neg (by omega)] at he ⊢
  unfold told at he ⊢
  split at he
  · rename_i h; rw [if_pos h]; exact aheadL_val hm p
  · simp at he

theorem rest_val {f : List api_Jump} {t : Int} (hm : mayB f = true) (ht0 : 0 ≤ t) (ht : t < 1125899906842624) (he : (rest f t).2 = 0) (p : Int) (hp : -1 ≤ p) : val (rest f t).1 p = val f (if p < t then t - 1 else p) := by
  unfold rest at he ⊢
  rw [if_pos hm, if_neg (by omega), if_neg (by omega)] at he ⊢
  unfold told at he ⊢
  split at he
  · rename_i h; rw [if_pos h]; exact restL_val hm p hp
  · simp at he

theorem ahead_nil {t : Int} (ht0 : 0 ≤ t) : ahead [] t = ([], 0) := by
  unfold ahead
  rw [if_pos may_nil]
  split
  · rfl
  · rfl

theorem rest_nil {t : Int} : rest [] t = ([], 0) := by
  unfold rest
  rw [if_pos may_nil]
  split
  · rfl
  · split <;> rfl

/-- Two tables that agree on both sides are one. -/
theorem sides_one {a b : List api_Edge} {t : Int} (ht0 : 0 ≤ t) (ht : t < 1125899906842624) (e1 : (aheadE a t).2 = 0) (e2 : (aheadE b t).2 = 0) (e3 : (restE a t).2 = 0) (e4 : (restE b t).2 = 0) (h1 : (aheadE a t).1 = (aheadE b t).1) (h2 : (restE a t).1 = (restE b t).1) : a = b := by
  have ma := (allE_ok e1).1
  have mb := (allE_ok e2).1
  refine mayE_ext ma mb fun r => ?_
  have n1 : (ahead [] t).1 = [] := by rw [ahead_nil ht0]
  have n2 : (rest [] t).1 = [] := by rw [rest_nil]
  have n1' : (ahead [] t).2 = 0 := by rw [ahead_nil ht0]
  have n2' : (rest [] t).2 = 0 := by rw [rest_nil]
  have a1 := allE_look (by1 := fun f => ahead f t) n1 e1 r
  have b1 := allE_look (by1 := fun f => ahead f t) n1 e2 r
  have a2 := allE_look (by1 := fun f => rest f t) n2 e3 r
  have b2 := allE_look (by1 := fun f => rest f t) n2 e4 r
  have xa1 := allE_err (by1 := fun f => ahead f t) n1' e1 r
  have xb1 := allE_err (by1 := fun f => ahead f t) n1' e2 r
  have xa2 := allE_err (by1 := fun f => rest f t) n2' e3 r
  have xb2 := allE_err (by1 := fun f => rest f t) n2' e4 r
  have fa := mayE_look ma r
  have fb := mayE_look mb r
  have k1 : (ahead (look (groups a) r) t).1 = (ahead (look (groups b) r) t).1 := by
    rw [← a1, ← b1]; exact congrArg (fun l => look (groups l) r) h1
  have k2 : (rest (look (groups a) r) t).1 = (rest (look (groups b) r) t).1 := by
    rw [← a2, ← b2]; exact congrArg (fun l => look (groups l) r) h2
  refine (may_up fa).ext (may_up fb) fun p hp hp2 => ?_
  by_cases hlt : p < t
  · have v1 := ahead_val fa ht xa1 p
    have v2 := ahead_val fb ht xb1 p
    rw [if_pos hlt] at v1 v2
    rw [← v1, ← v2, k1]
  · have v1 := rest_val fa ht0 ht xa2 p (by omega)
    have v2 := rest_val fb ht0 ht xb2 p (by omega)
    rw [if_neg hlt] at v1 v2
    rw [← v1, ← v2, k2]

end Go.Abs
namespace Go.Abs
open Go
theorem okL_in {l : List api_Edge} (m : ∀ a ∈ l, ok_api_Edge a) (y : List.length l * 40 ≤ 140737488351232) : okL l :=
  ⟨by omega, fun e he => by have := (m e he).1.2; omega⟩

end Go.Abs
namespace Go.Abs
open Go
theorem pure_EdgeSides (l0 : (List api_Edge)) (m0 : ∀ a ∈ l0, ok_api_Edge a) (y0 : List.length l0 * 40 ≤ 140737488351232) (l1 : (List api_Edge)) (m1 : ∀ a ∈ l1, ok_api_Edge a) (y1 : List.length l1 * 40 ≤ 140737488351232) (a2 : Int) (w2 : in64 a2) : s_law10_EdgeSides l0 l1 a2 = some true := by
  have k0 := okL_in m0 y0
  have k1 := okL_in m1 y1
  unfold s_law10_EdgeSides
  rw [ahead_eqE k0, ahead_eqE k1, rest_eqE k0, rest_eqE k1]
  simp only [Option.bind_some, live_eqE]
  by_cases hc : (aheadE l0 a2).2 = 0 ∧ (aheadE l1 a2).2 = 0 ∧ (restE l0 a2).2 = 0 ∧ (restE l1 a2).2 = 0 ∧ 0 ≤ a2 ∧ a2 < 1125899906842624
  · obtain ⟨e1, e2, e3, e4, t0, t1⟩ := hc
    have h1 : decide (a2 < 0) = false := by simp; omega
    have h2 : decide (1125899906842624 ≤ a2) = false := by simp; omega
    simp only [e1, e2, e3, e4, h1, h2, decide_true, Bool.not_true, Bool.or_self, cond_false]
    rw [edgeSame_of (aheadE_okL k0 a2)]
    simp only [Option.bind_some]
    rw [edgeSame_of (restE_okL k0 a2), edgeSame_of k0]
    by_cases h3 : (aheadE l0 a2).1 = (aheadE l1 a2).1
    · by_cases h4 : (restE l0 a2).1 = (restE l1 a2).1
      · have := sides_one t0 t1 e1 e2 e3 e4 h3 h4
        simp [h3, h4, gcall, this]
      · have : l0 ≠ l1 := fun h => h4 (by rw [h])
        simp [h3, h4, gcall, this]
    · have : l0 ≠ l1 := fun h => h3 (by rw [h])
      simp [h3, gcall, this]
  · have : ((((((!decide ((aheadE l0 a2).2 = 0)) || (!decide ((aheadE l1 a2).2 = 0))) || (!decide ((restE l0 a2).2 = 0))) || (!decide ((restE l1 a2).2 = 0))) || (decide (a2 < 0))) || (decide (1125899906842624 ≤ a2))) = true := by
      apply Classical.byContradiction
      intro h
      apply hc
      simp only [Bool.or_eq_true, Bool.not_eq_true', decide_eq_false_iff_not, decide_eq_true_eq, not_or, Decidable.not_not] at h
      obtain ⟨⟨⟨⟨⟨h1, h2⟩, h3⟩, h4⟩, h5⟩, h6⟩ := h
      exact ⟨h1, h2, h3, h4, by omega, by omega⟩
    rw [this, cond_true]

end Go.Abs
