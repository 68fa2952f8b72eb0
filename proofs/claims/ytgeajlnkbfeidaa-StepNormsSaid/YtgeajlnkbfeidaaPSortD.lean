/- The sort that keeps the order of equals, of any elements: the plain functions, turned from those of one kind of element. -/
import Derived.Test.YtgeajlnkbfeidaaPLoop
namespace Go.Abs
open Go

noncomputable def g_insertionSort_j2 {α : Type} [Inhabited α] (cmp3 : α → α → Option Int) (data0 : List α) (a1 : Int) (b2 : Int) (i8 : Int) : Option ((List α × Int) ⊕ ((List α))) :=
  some (.inl (data0, IntKind.i64.wrap (i8 + (1 : Int))))
noncomputable def g_insertionSort_l3 {α : Type} [Inhabited α] (cmp3 : α → α → Option Int) (a1 : Int) (b2 : Int) (i8 : Int) (data0 : List α) (j9 : Int) : Option ((List α × Int) ⊕ ((List α))) :=
  asrt ((((decide (a1 < j9))) = true → 0 ≤ j9 ∧ j9 < ((List.length data0 : Nat) : Int))) <|
  asrt ((((decide (a1 < j9))) = true → 0 ≤ (IntKind.i64.wrap (j9 - (1 : Int))) ∧ (IntKind.i64.wrap (j9 - (1 : Int))) < ((List.length data0 : Nat) : Int))) <|
  (gcall (decide (a1 < j9)) (cmp3 (List.getD data0 (Int.toNat j9) default) (List.getD data0 (Int.toNat (IntKind.i64.wrap (j9 - (1 : Int)))) default))).bind fun x3 =>
  cond ((decide (a1 < j9)) && (decide (x3 < (0 : Int))))
  (asrt (0 ≤ (IntKind.i64.wrap (j9 - (1 : Int))) ∧ (IntKind.i64.wrap (j9 - (1 : Int))) < ((List.length data0 : Nat) : Int)) <|
  asrt (0 ≤ j9 ∧ j9 < ((List.length data0 : Nat) : Int)) <|
  asrt (0 ≤ j9 ∧ j9 < ((List.length data0 : Nat) : Int)) <|
  asrt (0 ≤ (IntKind.i64.wrap (j9 - (1 : Int))) ∧ (IntKind.i64.wrap (j9 - (1 : Int))) < ((List.length data0 : Nat) : Int)) <|
  some (.inl (List.set (List.set data0 (Int.toNat j9) (List.getD data0 (Int.toNat (IntKind.i64.wrap (j9 - (1 : Int)))) default)) (Int.toNat (IntKind.i64.wrap (j9 - (1 : Int)))) (List.getD data0 (Int.toNat j9) default), IntKind.i64.wrap (j9 - (1 : Int)))))
  (some (.inr data0))
noncomputable def g_insertionSort_h3 {α : Type} [Inhabited α] (cmp3 : α → α → Option Int) (data0 : List α) (a1 : Int) (b2 : Int) (i8 : Int) (j9 : Int) : Option ((List α × Int) ⊕ ((List α))) :=
  (lp (fun s => g_insertionSort_l3 cmp3 a1 b2 i8 s.1 s.2) (data0, j9)).bind (fun rr => g_insertionSort_j2 cmp3 rr a1 b2 i8)
noncomputable def g_insertionSort_l1 {α : Type} [Inhabited α] (cmp3 : α → α → Option Int) (a1 : Int) (b2 : Int) (data0 : List α) (i8 : Int) : Option ((List α × Int) ⊕ ((List α))) :=
  cond (decide (i8 < b2))
  (g_insertionSort_h3 cmp3 data0 a1 b2 i8 i8)
  (some (.inr data0))
noncomputable def g_insertionSort_h1 {α : Type} [Inhabited α] (cmp3 : α → α → Option Int) (data0 : List α) (a1 : Int) (b2 : Int) (i8 : Int) : Option (List α) :=
  (lp (fun s => g_insertionSort_l1 cmp3 a1 b2 s.1 s.2) (data0, i8)).bind (fun rr => some rr)
noncomputable def gs_insertionSort {α : Type} [Inhabited α] (data0 : (List α)) (a1 : Int) (b2 : Int) (cmp3 : α → α → Option Int) : Option (List α) :=
  g_insertionSort_h1 cmp3 data0 a1 b2 (IntKind.i64.wrap (a1 + (1 : Int)))

noncomputable def g_swapRange_l1 {α : Type} [Inhabited α] (cmp4 : α → α → Option Int) (a1 : Int) (b2 : Int) (n3 : Int) (data0 : List α) (i10 : Int) : Option ((List α × Int) ⊕ ((List α))) :=
  cond (decide (i10 < n3))
  (asrt (0 ≤ (IntKind.i64.wrap (b2 + i10)) ∧ (IntKind.i64.wrap (b2 + i10)) < ((List.length data0 : Nat) : Int)) <|
  asrt (0 ≤ (IntKind.i64.wrap (a1 + i10)) ∧ (IntKind.i64.wrap (a1 + i10)) < ((List.length data0 : Nat) : Int)) <|
  asrt (0 ≤ (IntKind.i64.wrap (a1 + i10)) ∧ (IntKind.i64.wrap (a1 + i10)) < ((List.length data0 : Nat) : Int)) <|
  asrt (0 ≤ (IntKind.i64.wrap (b2 + i10)) ∧ (IntKind.i64.wrap (b2 + i10)) < ((List.length data0 : Nat) : Int)) <|
  some (.inl (List.set (List.set data0 (Int.toNat (IntKind.i64.wrap (a1 + i10))) (List.getD data0 (Int.toNat (IntKind.i64.wrap (b2 + i10))) default)) (Int.toNat (IntKind.i64.wrap (b2 + i10))) (List.getD data0 (Int.toNat (IntKind.i64.wrap (a1 + i10))) default), IntKind.i64.wrap (i10 + (1 : Int)))))
  (some (.inr data0))
noncomputable def g_swapRange_h1 {α : Type} [Inhabited α] (cmp4 : α → α → Option Int) (data0 : List α) (a1 : Int) (b2 : Int) (n3 : Int) (i10 : Int) : Option (List α) :=
  (lp (fun s => g_swapRange_l1 cmp4 a1 b2 n3 s.1 s.2) (data0, i10)).bind (fun rr => some rr)
noncomputable def gs_swapRange {α : Type} [Inhabited α] (data0 : (List α)) (a1 : Int) (b2 : Int) (n3 : Int) (cmp4 : α → α → Option Int) : Option (List α) :=
  g_swapRange_h1 cmp4 data0 a1 b2 n3 (0 : Int)

noncomputable def g_rotate_j1 {α : Type} [Inhabited α] (cmp4 : α → α → Option Int) (data0 : List α) (m2 : Int) (i10 : Int) : Option (List α) :=
  (gs_swapRange data0 (IntKind.i64.wrap (m2 - i10)) m2 i10 cmp4).bind fun x1 =>
  some x1
noncomputable def g_rotate_l2 {α : Type} [Inhabited α] (cmp4 : α → α → Option Int) (m2 : Int) (data0 : List α) (i10 : Int) (j11 : Int) : Option ((List α × Int × Int) ⊕ ((List α × Int))) :=
  cond (!decide (i10 = j11))
  (cond (decide (j11 < i10))
  ((gs_swapRange data0 (IntKind.i64.wrap (m2 - i10)) m2 j11 cmp4).bind fun x4 =>
  some (.inl (x4, IntKind.i64.wrap (i10 - j11), j11)))
  ((gs_swapRange data0 (IntKind.i64.wrap (m2 - i10)) (IntKind.i64.wrap ((IntKind.i64.wrap (m2 + j11)) - i10)) i10 cmp4).bind fun x7 =>
  some (.inl (x7, i10, IntKind.i64.wrap (j11 - i10)))))
  (some (.inr (data0, i10)))
noncomputable def g_rotate_h2 {α : Type} [Inhabited α] (cmp4 : α → α → Option Int) (data0 : List α) (m2 : Int) (i10 : Int) (j11 : Int) : Option (List α) :=
  (lp (fun s => g_rotate_l2 cmp4 m2 s.1 s.2.1 s.2.2) (data0, i10, j11)).bind (fun rr => g_rotate_j1 cmp4 rr.1 m2 rr.2)
noncomputable def gs_rotate {α : Type} [Inhabited α] (data0 : (List α)) (a1 : Int) (m2 : Int) (b3 : Int) (cmp4 : α → α → Option Int) : Option (List α) :=
  g_rotate_h2 cmp4 data0 m2 (IntKind.i64.wrap (m2 - a1)) (IntKind.i64.wrap (b3 - m2))

noncomputable def g_symMerge_j6 {α : Type} [Inhabited α] (cmp4 : α → α → Option Int) (rec : (List α) → Int → Int → Int → Option (List α)) (data0 : List α) (b3 : Int) (mid18 : Int) (end24 : Int) : Option (List α) :=
  cond ((decide (mid18 < end24)) && (decide (end24 < b3)))
  ((rec data0 mid18 end24 b3).bind fun x2 =>
  some x2)
  (some data0)
noncomputable def g_symMerge_j5 {α : Type} [Inhabited α] (cmp4 : α → α → Option Int) (rec : (List α) → Int → Int → Int → Option (List α)) (data0 : List α) (a1 : Int) (b3 : Int) (mid18 : Int) (start20 : Int) (end24 : Int) : Option (List α) :=
  cond ((decide (a1 < start20)) && (decide (start20 < mid18)))
  ((rec data0 a1 start20 mid18).bind fun x6 =>
  g_symMerge_j6 cmp4 rec x6 b3 mid18 end24)
  (g_symMerge_j6 cmp4 rec data0 b3 mid18 end24)
noncomputable def g_symMerge_j4 {α : Type} [Inhabited α] (cmp4 : α → α → Option Int) (rec : (List α) → Int → Int → Int → Option (List α)) (data0 : List α) (a1 : Int) (m2 : Int) (b3 : Int) (mid18 : Int) (n19 : Int) (start20 : Int) : Option (List α) :=
  cond ((decide (start20 < m2)) && (decide (m2 < (IntKind.i64.wrap (n19 - start20)))))
  ((gs_rotate data0 start20 m2 (IntKind.i64.wrap (n19 - start20)) cmp4).bind fun x10 =>
  g_symMerge_j5 cmp4 rec x10 a1 b3 mid18 start20 (IntKind.i64.wrap (n19 - start20)))
  (g_symMerge_j5 cmp4 rec data0 a1 b3 mid18 start20 (IntKind.i64.wrap (n19 - start20)))
noncomputable def g_symMerge_l7 {α : Type} [Inhabited α] (cmp4 : α → α → Option Int) (rec : (List α) → Int → Int → Int → Option (List α)) (a1 : Int) (m2 : Int) (b3 : Int) (mid18 : Int) (n19 : Int) (p22 : Int) (data0 : List α) (start20 : Int) (r21 : Int) : Option ((List α × Int × Int) ⊕ ((List α × Int))) :=
  cond (decide (start20 < r21))
  (asrt (0 ≤ (1 : Int)) <|
  asrt (0 ≤ (IntKind.i64.wrap (p22 - (IntKind.i64.wrap (Int.fdiv (IntKind.u64.wrap (IntKind.i64.wrap (start20 + r21))) (2 ^ (min (Int.toNat (1 : Int)) 64)))))) ∧ (IntKind.i64.wrap (p22 - (IntKind.i64.wrap (Int.fdiv (IntKind.u64.wrap (IntKind.i64.wrap (start20 + r21))) (2 ^ (min (Int.toNat (1 : Int)) 64)))))) < ((List.length data0 : Nat) : Int)) <|
  asrt (0 ≤ (IntKind.i64.wrap (Int.fdiv (IntKind.u64.wrap (IntKind.i64.wrap (start20 + r21))) (2 ^ (min (Int.toNat (1 : Int)) 64)))) ∧ (IntKind.i64.wrap (Int.fdiv (IntKind.u64.wrap (IntKind.i64.wrap (start20 + r21))) (2 ^ (min (Int.toNat (1 : Int)) 64)))) < ((List.length data0 : Nat) : Int)) <|
  (cmp4 (List.getD data0 (Int.toNat (IntKind.i64.wrap (p22 - (IntKind.i64.wrap (Int.fdiv (IntKind.u64.wrap (IntKind.i64.wrap (start20 + r21))) (2 ^ (min (Int.toNat (1 : Int)) 64))))))) default) (List.getD data0 (Int.toNat (IntKind.i64.wrap (Int.fdiv (IntKind.u64.wrap (IntKind.i64.wrap (start20 + r21))) (2 ^ (min (Int.toNat (1 : Int)) 64))))) default)).bind fun x17 =>
  cond (!(decide (x17 < (0 : Int))))
  (some (.inl (data0, IntKind.i64.wrap ((IntKind.i64.wrap (Int.fdiv (IntKind.u64.wrap (IntKind.i64.wrap (start20 + r21))) (2 ^ (min (Int.toNat (1 : Int)) 64)))) + (1 : Int)), r21)))
  (some (.inl (data0, start20, IntKind.i64.wrap (Int.fdiv (IntKind.u64.wrap (IntKind.i64.wrap (start20 + r21))) (2 ^ (min (Int.toNat (1 : Int)) 64)))))))
  (some (.inr (data0, start20)))
noncomputable def g_symMerge_h7 {α : Type} [Inhabited α] (cmp4 : α → α → Option Int) (rec : (List α) → Int → Int → Int → Option (List α)) (data0 : List α) (a1 : Int) (m2 : Int) (b3 : Int) (mid18 : Int) (n19 : Int) (start20 : Int) (r21 : Int) (p22 : Int) : Option (List α) :=
  (lp (fun s => g_symMerge_l7 cmp4 rec a1 m2 b3 mid18 n19 p22 s.1 s.2.1 s.2.2) (data0, start20, r21)).bind (fun rr => g_symMerge_j4 cmp4 rec rr.1 a1 m2 b3 mid18 n19 rr.2)
noncomputable def g_symMerge_j3 {α : Type} [Inhabited α] (cmp4 : α → α → Option Int) (rec : (List α) → Int → Int → Int → Option (List α)) (data0 : List α) (a1 : Int) (m2 : Int) (b3 : Int) (mid18 : Int) (n19 : Int) (start20 : Int) (r21 : Int) : Option (List α) :=
  g_symMerge_h7 cmp4 rec data0 a1 m2 b3 mid18 n19 start20 r21 (IntKind.i64.wrap (n19 - (1 : Int)))
noncomputable def g_symMerge_j2 {α : Type} [Inhabited α] (cmp4 : α → α → Option Int) (rec : (List α) → Int → Int → Int → Option (List α)) (data0 : List α) (a1 : Int) (m2 : Int) (b3 : Int) : Option (List α) :=
  asrt (0 ≤ (1 : Int)) <|
  cond (decide ((IntKind.i64.wrap (Int.fdiv (IntKind.u64.wrap (IntKind.i64.wrap (a1 + b3))) (2 ^ (min (Int.toNat (1 : Int)) 64)))) < m2))
  (g_symMerge_j3 cmp4 rec data0 a1 m2 b3 (IntKind.i64.wrap (Int.fdiv (IntKind.u64.wrap (IntKind.i64.wrap (a1 + b3))) (2 ^ (min (Int.toNat (1 : Int)) 64)))) (IntKind.i64.wrap ((IntKind.i64.wrap (Int.fdiv (IntKind.u64.wrap (IntKind.i64.wrap (a1 + b3))) (2 ^ (min (Int.toNat (1 : Int)) 64)))) + m2)) (IntKind.i64.wrap ((IntKind.i64.wrap ((IntKind.i64.wrap (Int.fdiv (IntKind.u64.wrap (IntKind.i64.wrap (a1 + b3))) (2 ^ (min (Int.toNat (1 : Int)) 64)))) + m2)) - b3)) (IntKind.i64.wrap (Int.fdiv (IntKind.u64.wrap (IntKind.i64.wrap (a1 + b3))) (2 ^ (min (Int.toNat (1 : Int)) 64)))))
  (g_symMerge_j3 cmp4 rec data0 a1 m2 b3 (IntKind.i64.wrap (Int.fdiv (IntKind.u64.wrap (IntKind.i64.wrap (a1 + b3))) (2 ^ (min (Int.toNat (1 : Int)) 64)))) (IntKind.i64.wrap ((IntKind.i64.wrap (Int.fdiv (IntKind.u64.wrap (IntKind.i64.wrap (a1 + b3))) (2 ^ (min (Int.toNat (1 : Int)) 64)))) + m2)) a1 m2)
noncomputable def g_symMerge_j9 {α : Type} [Inhabited α] (cmp4 : α → α → Option Int) (rec : (List α) → Int → Int → Int → Option (List α)) (data0 : List α) : Option (List α) :=
  some data0
noncomputable def g_symMerge_l10 {α : Type} [Inhabited α] (cmp4 : α → α → Option Int) (rec : (List α) → Int → Int → Int → Option (List α)) (i14 : Int) (data0 : List α) (k17 : Int) : Option ((List α × Int) ⊕ ((List α))) :=
  cond (decide (i14 < k17))
  (asrt (0 ≤ (IntKind.i64.wrap (k17 - (1 : Int))) ∧ (IntKind.i64.wrap (k17 - (1 : Int))) < ((List.length data0 : Nat) : Int)) <|
  asrt (0 ≤ k17 ∧ k17 < ((List.length data0 : Nat) : Int)) <|
  asrt (0 ≤ k17 ∧ k17 < ((List.length data0 : Nat) : Int)) <|
  asrt (0 ≤ (IntKind.i64.wrap (k17 - (1 : Int))) ∧ (IntKind.i64.wrap (k17 - (1 : Int))) < ((List.length data0 : Nat) : Int)) <|
  some (.inl (List.set (List.set data0 (Int.toNat k17) (List.getD data0 (Int.toNat (IntKind.i64.wrap (k17 - (1 : Int)))) default)) (Int.toNat (IntKind.i64.wrap (k17 - (1 : Int)))) (List.getD data0 (Int.toNat k17) default), IntKind.i64.wrap (k17 - (1 : Int)))))
  (some (.inr data0))
noncomputable def g_symMerge_h10 {α : Type} [Inhabited α] (cmp4 : α → α → Option Int) (rec : (List α) → Int → Int → Int → Option (List α)) (data0 : List α) (i14 : Int) (k17 : Int) : Option (List α) :=
  (lp (fun s => g_symMerge_l10 cmp4 rec i14 s.1 s.2) (data0, k17)).bind (fun rr => g_symMerge_j9 cmp4 rec rr)
noncomputable def g_symMerge_j8 {α : Type} [Inhabited α] (cmp4 : α → α → Option Int) (rec : (List α) → Int → Int → Int → Option (List α)) (data0 : List α) (m2 : Int) (i14 : Int) : Option (List α) :=
  g_symMerge_h10 cmp4 rec data0 i14 m2
noncomputable def g_symMerge_l11 {α : Type} [Inhabited α] (cmp4 : α → α → Option Int) (rec : (List α) → Int → Int → Int → Option (List α)) (m2 : Int) (data0 : List α) (i14 : Int) (j15 : Int) : Option ((List α × Int × Int) ⊕ ((List α × Int))) :=
  cond (decide (i14 < j15))
  (asrt (0 ≤ (1 : Int)) <|
  asrt (0 ≤ m2 ∧ m2 < ((List.length data0 : Nat) : Int)) <|
  asrt (0 ≤ (IntKind.i64.wrap (Int.fdiv (IntKind.u64.wrap (IntKind.i64.wrap (i14 + j15))) (2 ^ (min (Int.toNat (1 : Int)) 64)))) ∧ (IntKind.i64.wrap (Int.fdiv (IntKind.u64.wrap (IntKind.i64.wrap (i14 + j15))) (2 ^ (min (Int.toNat (1 : Int)) 64)))) < ((List.length data0 : Nat) : Int)) <|
  (cmp4 (List.getD data0 (Int.toNat m2) default) (List.getD data0 (Int.toNat (IntKind.i64.wrap (Int.fdiv (IntKind.u64.wrap (IntKind.i64.wrap (i14 + j15))) (2 ^ (min (Int.toNat (1 : Int)) 64))))) default)).bind fun x31 =>
  cond (!(decide (x31 < (0 : Int))))
  (some (.inl (data0, IntKind.i64.wrap ((IntKind.i64.wrap (Int.fdiv (IntKind.u64.wrap (IntKind.i64.wrap (i14 + j15))) (2 ^ (min (Int.toNat (1 : Int)) 64)))) + (1 : Int)), j15)))
  (some (.inl (data0, i14, IntKind.i64.wrap (Int.fdiv (IntKind.u64.wrap (IntKind.i64.wrap (i14 + j15))) (2 ^ (min (Int.toNat (1 : Int)) 64)))))))
  (some (.inr (data0, i14)))
noncomputable def g_symMerge_h11 {α : Type} [Inhabited α] (cmp4 : α → α → Option Int) (rec : (List α) → Int → Int → Int → Option (List α)) (data0 : List α) (m2 : Int) (i14 : Int) (j15 : Int) : Option (List α) :=
  (lp (fun s => g_symMerge_l11 cmp4 rec m2 s.1 s.2.1 s.2.2) (data0, i14, j15)).bind (fun rr => g_symMerge_j8 cmp4 rec rr.1 m2 rr.2)
noncomputable def g_symMerge_j1 {α : Type} [Inhabited α] (cmp4 : α → α → Option Int) (rec : (List α) → Int → Int → Int → Option (List α)) (data0 : List α) (a1 : Int) (m2 : Int) (b3 : Int) : Option (List α) :=
  cond (decide ((IntKind.i64.wrap (b3 - m2)) = (1 : Int)))
  (g_symMerge_h11 cmp4 rec data0 m2 a1 m2)
  (g_symMerge_j2 cmp4 rec data0 a1 m2 b3)
noncomputable def g_symMerge_j13 {α : Type} [Inhabited α] (cmp4 : α → α → Option Int) (rec : (List α) → Int → Int → Int → Option (List α)) (data0 : List α) : Option (List α) :=
  some data0
noncomputable def g_symMerge_l14 {α : Type} [Inhabited α] (cmp4 : α → α → Option Int) (rec : (List α) → Int → Int → Int → Option (List α)) (i10 : Int) (data0 : List α) (k13 : Int) : Option ((List α × Int) ⊕ ((List α))) :=
  cond (decide (k13 < (IntKind.i64.wrap (i10 - (1 : Int)))))
  (asrt (0 ≤ (IntKind.i64.wrap (k13 + (1 : Int))) ∧ (IntKind.i64.wrap (k13 + (1 : Int))) < ((List.length data0 : Nat) : Int)) <|
  asrt (0 ≤ k13 ∧ k13 < ((List.length data0 : Nat) : Int)) <|
  asrt (0 ≤ k13 ∧ k13 < ((List.length data0 : Nat) : Int)) <|
  asrt (0 ≤ (IntKind.i64.wrap (k13 + (1 : Int))) ∧ (IntKind.i64.wrap (k13 + (1 : Int))) < ((List.length data0 : Nat) : Int)) <|
  some (.inl (List.set (List.set data0 (Int.toNat k13) (List.getD data0 (Int.toNat (IntKind.i64.wrap (k13 + (1 : Int)))) default)) (Int.toNat (IntKind.i64.wrap (k13 + (1 : Int)))) (List.getD data0 (Int.toNat k13) default), IntKind.i64.wrap (k13 + (1 : Int)))))
  (some (.inr data0))
noncomputable def g_symMerge_h14 {α : Type} [Inhabited α] (cmp4 : α → α → Option Int) (rec : (List α) → Int → Int → Int → Option (List α)) (data0 : List α) (i10 : Int) (k13 : Int) : Option (List α) :=
  (lp (fun s => g_symMerge_l14 cmp4 rec i10 s.1 s.2) (data0, k13)).bind (fun rr => g_symMerge_j13 cmp4 rec rr)
noncomputable def g_symMerge_j12 {α : Type} [Inhabited α] (cmp4 : α → α → Option Int) (rec : (List α) → Int → Int → Int → Option (List α)) (data0 : List α) (a1 : Int) (i10 : Int) : Option (List α) :=
  g_symMerge_h14 cmp4 rec data0 i10 a1
noncomputable def g_symMerge_l15 {α : Type} [Inhabited α] (cmp4 : α → α → Option Int) (rec : (List α) → Int → Int → Int → Option (List α)) (a1 : Int) (data0 : List α) (i10 : Int) (j11 : Int) : Option ((List α × Int × Int) ⊕ ((List α × Int))) :=
  cond (decide (i10 < j11))
  (asrt (0 ≤ (1 : Int)) <|
  asrt (0 ≤ (IntKind.i64.wrap (Int.fdiv (IntKind.u64.wrap (IntKind.i64.wrap (i10 + j11))) (2 ^ (min (Int.toNat (1 : Int)) 64)))) ∧ (IntKind.i64.wrap (Int.fdiv (IntKind.u64.wrap (IntKind.i64.wrap (i10 + j11))) (2 ^ (min (Int.toNat (1 : Int)) 64)))) < ((List.length data0 : Nat) : Int)) <|
  asrt (0 ≤ a1 ∧ a1 < ((List.length data0 : Nat) : Int)) <|
  (cmp4 (List.getD data0 (Int.toNat (IntKind.i64.wrap (Int.fdiv (IntKind.u64.wrap (IntKind.i64.wrap (i10 + j11))) (2 ^ (min (Int.toNat (1 : Int)) 64))))) default) (List.getD data0 (Int.toNat a1) default)).bind fun x45 =>
  cond (decide (x45 < (0 : Int)))
  (some (.inl (data0, IntKind.i64.wrap ((IntKind.i64.wrap (Int.fdiv (IntKind.u64.wrap (IntKind.i64.wrap (i10 + j11))) (2 ^ (min (Int.toNat (1 : Int)) 64)))) + (1 : Int)), j11)))
  (some (.inl (data0, i10, IntKind.i64.wrap (Int.fdiv (IntKind.u64.wrap (IntKind.i64.wrap (i10 + j11))) (2 ^ (min (Int.toNat (1 : Int)) 64)))))))
  (some (.inr (data0, i10)))
noncomputable def g_symMerge_h15 {α : Type} [Inhabited α] (cmp4 : α → α → Option Int) (rec : (List α) → Int → Int → Int → Option (List α)) (data0 : List α) (a1 : Int) (i10 : Int) (j11 : Int) : Option (List α) :=
  (lp (fun s => g_symMerge_l15 cmp4 rec a1 s.1 s.2.1 s.2.2) (data0, i10, j11)).bind (fun rr => g_symMerge_j12 cmp4 rec rr.1 a1 rr.2)
noncomputable def g_symMerge_step {α : Type} [Inhabited α] (cmp4 : α → α → Option Int) (rec : (List α) → Int → Int → Int → Option (List α)) (data0 : (List α)) (a1 : Int) (m2 : Int) (b3 : Int) : Option (List α) :=
  cond (decide ((IntKind.i64.wrap (m2 - a1)) = (1 : Int)))
  (g_symMerge_h15 cmp4 rec data0 a1 m2 b3)
  (g_symMerge_j1 cmp4 rec data0 a1 m2 b3)
noncomputable def g_symMerge_at {α : Type} [Inhabited α] (cmp4 : α → α → Option Int) : Nat → (List α) → Int → Int → Int → Option (List α)
  | 0 => fun _ _ _ _ => none
  | k + 1 => g_symMerge_step cmp4 (g_symMerge_at cmp4 k)
noncomputable def gs_symMerge {α : Type} [Inhabited α] (data0 : (List α)) (a1 : Int) (m2 : Int) (b3 : Int) (cmp4 : α → α → Option Int) : Option (List α) := fixN (fun k => g_symMerge_at cmp4 k data0 a1 m2 b3)

noncomputable def g_stable_j4 {α : Type} [Inhabited α] (cmp2 : α → α → Option Int) (data0 : List α) (n1 : Int) (blockSize6 : Int) : Option ((List α × Int) ⊕ ((List α))) :=
  some (.inl (data0, IntKind.i64.wrap (blockSize6 * (2 : Int))))
noncomputable def g_stable_j3 {α : Type} [Inhabited α] (cmp2 : α → α → Option Int) (data0 : List α) (n1 : Int) (blockSize6 : Int) (a7 : Int) : Option ((List α × Int) ⊕ ((List α))) :=
  cond (decide ((IntKind.i64.wrap (a7 + blockSize6)) < n1))
  ((gs_symMerge data0 a7 (IntKind.i64.wrap (a7 + blockSize6)) n1 cmp2).bind fun x4 =>
  g_stable_j4 cmp2 x4 n1 blockSize6)
  (g_stable_j4 cmp2 data0 n1 blockSize6)
noncomputable def g_stable_l5 {α : Type} [Inhabited α] (cmp2 : α → α → Option Int) (n1 : Int) (blockSize6 : Int) (data0 : List α) (a7 : Int) (b8 : Int) : Option ((List α × Int × Int) ⊕ ((List α × Int))) :=
  cond (decide (b8 ≤ n1))
  ((gs_symMerge data0 a7 (IntKind.i64.wrap (a7 + blockSize6)) b8 cmp2).bind fun x8 =>
  some (.inl (x8, b8, IntKind.i64.wrap (b8 + (IntKind.i64.wrap ((2 : Int) * blockSize6))))))
  (some (.inr (data0, a7)))
noncomputable def g_stable_h5 {α : Type} [Inhabited α] (cmp2 : α → α → Option Int) (data0 : List α) (n1 : Int) (blockSize6 : Int) (a7 : Int) (b8 : Int) : Option ((List α × Int) ⊕ ((List α))) :=
  (lp (fun s => g_stable_l5 cmp2 n1 blockSize6 s.1 s.2.1 s.2.2) (data0, a7, b8)).bind (fun rr => g_stable_j3 cmp2 rr.1 n1 blockSize6 rr.2)
noncomputable def g_stable_l2 {α : Type} [Inhabited α] (cmp2 : α → α → Option Int) (n1 : Int) (data0 : List α) (blockSize6 : Int) : Option ((List α × Int) ⊕ ((List α))) :=
  cond (decide (blockSize6 < n1))
  (g_stable_h5 cmp2 data0 n1 blockSize6 (0 : Int) (IntKind.i64.wrap ((2 : Int) * blockSize6)))
  (some (.inr data0))
noncomputable def g_stable_h2 {α : Type} [Inhabited α] (cmp2 : α → α → Option Int) (data0 : List α) (n1 : Int) (blockSize6 : Int) : Option (List α) :=
  (lp (fun s => g_stable_l2 cmp2 n1 s.1 s.2) (data0, blockSize6)).bind (fun rr => some rr)
noncomputable def g_stable_j1 {α : Type} [Inhabited α] (cmp2 : α → α → Option Int) (data0 : List α) (n1 : Int) (blockSize6 : Int) (a7 : Int) : Option (List α) :=
  (gs_insertionSort data0 a7 n1 cmp2).bind fun x1 =>
  g_stable_h2 cmp2 x1 n1 blockSize6
noncomputable def g_stable_l6 {α : Type} [Inhabited α] (cmp2 : α → α → Option Int) (n1 : Int) (blockSize6 : Int) (data0 : List α) (a7 : Int) (b8 : Int) : Option ((List α × Int × Int) ⊕ ((List α × Int))) :=
  cond (decide (b8 ≤ n1))
  ((gs_insertionSort data0 a7 b8 cmp2).bind fun x13 =>
  some (.inl (x13, b8, IntKind.i64.wrap (b8 + blockSize6))))
  (some (.inr (data0, a7)))
noncomputable def g_stable_h6 {α : Type} [Inhabited α] (cmp2 : α → α → Option Int) (data0 : List α) (n1 : Int) (blockSize6 : Int) (a7 : Int) (b8 : Int) : Option (List α) :=
  (lp (fun s => g_stable_l6 cmp2 n1 blockSize6 s.1 s.2.1 s.2.2) (data0, a7, b8)).bind (fun rr => g_stable_j1 cmp2 rr.1 n1 blockSize6 rr.2)
noncomputable def gs_stable {α : Type} [Inhabited α] (data0 : (List α)) (n1 : Int) (cmp2 : α → α → Option Int) : Option (List α) :=
  g_stable_h6 cmp2 data0 n1 (20 : Int) (0 : Int) (20 : Int)


end Go.Abs
