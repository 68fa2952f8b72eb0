/- The given functions, as plain functions: printed by gen.py. -/
import Derived.Test.YtgeajlnkbfeidaaAbs19
namespace Go.Abs
open Go

structure api_Jump where
  At : Int
  Net : Int
  deriving Inhabited, DecidableEq
def c_api_Jump (x : api_Jump) : List V := [(eInt .i64 x.At)] ++ [(eInt .i64 x.Net)]
def e_api_Jump (x : api_Jump) : V := .agg (c_api_Jump x)

/-- rescind/rescindlaw09.few -/
noncomputable def s_law09_few (f0 : (List api_Jump)) : Option Bool :=
  some (decide (((List.length f0 : Nat) : Int) ≤ (60 : Int)))

noncomputable def slices_IndexFunc_api_Jump_api_Jump_j1 (f1 : api_Jump → Option Bool)  : Option Int :=
  some (-1 : Int)
noncomputable def slices_IndexFunc_api_Jump_api_Jump_l2 (f1 : api_Jump → Option Bool) (s0 : (List api_Jump)) (t7 : Int) (t8 : Int) : Option ((Int) ⊕ (Unit ⊕ Int)) :=
  cond (decide (t8 < t7))
  (asrt (0 ≤ t8 ∧ t8 < ((List.length s0 : Nat) : Int)) <|
  (f1 (List.getD s0 (Int.toNat t8) default)).bind fun x2 =>
  cond x2
  (some (.inr (.inr t8)))
  (some (.inl (IntKind.i64.wrap (t8 + (1 : Int))))))
  (some (.inr (.inl ())))
noncomputable def slices_IndexFunc_api_Jump_api_Jump_h2 (f1 : api_Jump → Option Bool) (s0 : (List api_Jump)) (t7 : Int) (t8 : Int) : Option Int :=
  (lp (fun s => slices_IndexFunc_api_Jump_api_Jump_l2 f1 s0 t7 s) t8).bind (Sum.elim (fun rr => slices_IndexFunc_api_Jump_api_Jump_j1 f1 ) (fun rr => some rr))
/-- slices.IndexFunc[[]rescind/api.Jump,rescind/api.Jump] -/
noncomputable def s_slices_IndexFunc_api_Jump_api_Jump (s0 : (List api_Jump)) (f1 : api_Jump → Option Bool) : Option Int :=
  slices_IndexFunc_api_Jump_api_Jump_h2 f1 s0 ((List.length s0 : Nat) : Int) (0 : Int)

/-- slices.ContainsFunc[[]rescind/api.Jump,rescind/api.Jump] -/
noncomputable def s_slices_ContainsFunc_api_Jump_api_Jump (s0 : (List api_Jump)) (f1 : api_Jump → Option Bool) : Option Bool :=
  (s_slices_IndexFunc_api_Jump_api_Jump s0 f1).bind fun x1 =>
  some (decide ((0 : Int) ≤ x1))

/-- rescind/step.fair -/
noncomputable def s_step_fair (n0 : Int) : Option Bool :=
  some ((decide (n0 ≤ (1048576 : Int))) && (decide ((-1048576 : Int) ≤ n0)))

/-- rescind/step.Norm$1 -/
noncomputable def s_step_Norm_1 (j0 : api_Jump) : Option Bool :=
  (s_step_fair j0.Net).bind fun x2 =>
  some (!x2)

/-- rescind/step.Norm$2 -/
noncomputable def s_step_Norm_2 (j0 : api_Jump) : Option Bool :=
  some ((decide (j0.At < (-1 : Int))) || (decide ((1125899906842624 : Int) < j0.At)))

/-- slices.Clone[[]rescind/api.Jump,rescind/api.Jump] -/
noncomputable def s_slices_Clone_api_Jump_api_Jump (s0 : (List api_Jump)) : Option (List api_Jump) :=
  asrt (List.length s0 * 16 ≤ 140737488355328 ∧ List.length s0 ≤ 9223372036854775807) <|
  some s0

noncomputable def slices_insertionSortCmpFunc_api_Jump_j2 (cmp3 : api_Jump → api_Jump → Option Int) (data0 : List api_Jump) (a1 : Int) (b2 : Int) (i8 : Int) : Option ((List api_Jump × Int) ⊕ ((List api_Jump))) :=
  some (.inl (data0, IntKind.i64.wrap (i8 + (1 : Int))))
noncomputable def slices_insertionSortCmpFunc_api_Jump_l3 (cmp3 : api_Jump → api_Jump → Option Int) (a1 : Int) (b2 : Int) (i8 : Int) (data0 : List api_Jump) (j9 : Int) : Option ((List api_Jump × Int) ⊕ ((List api_Jump))) :=
  asrt ((((decide (a1 < j9))) = true → 0 ≤ j9 ∧ j9 < ((List.length data0 : Nat) : Int))) <|
  asrt ((((decide (a1 < j9))) = true → 0 ≤ (IntKind.i64.wrap (j9 - (1 : Int))) ∧ (IntKind.i64.wrap (j9 - (1 : Int))) < ((List.length data0 : Nat) : Int))) <|
  (gcall (decide (a1 < j9)) (cmp3 (List.getD data0 (Int.toNat j9) default) (List.getD data0 (Int.toNat (IntKind.i64.wrap (j9 - (1 : Int)))) default))).bind fun x3 =>
  cond ((decide (a1 < j9)) && (decide (x3 < (0 : Int))))
  (asrt (0 ≤ (IntKind.i64.wrap (j9 - (1 : Int))) ∧ (IntKind.i64.wrap (j9 - (1 : Int))) < ((List.length data0 : Nat) : Int)) <|
  asrt (0 ≤ j9 ∧ j9 < ((List.length data0 : Nat) : Int)) <|
  asrt (0 ≤ j9 ∧ j9 < ((List.length data0 : Nat) : Int)) <|
  asrt (0 ≤ (IntKind.i64.wrap (j9 - (1 : Int))) ∧ (IntKind.i64.wrap (j9 - (1 : Int))) < ((List.length data0 : Nat) : Int)) <|
  some (.inl (List.set (List.set data0 (Int.toNat j9) (List.getD data0 (Int.toNat (IntKind.i64.wrap (j9 - (1 : Int)))) default)) (Int.toNat (IntKind.i64.wrap (j9 - (1 : Int)))) (List.getD data0 (Int.toNat j9) default), IntKind.i64.wrap (j9 - (1 : Int)))))
  (some (.inr data0))
noncomputable def slices_insertionSortCmpFunc_api_Jump_h3 (cmp3 : api_Jump → api_Jump → Option Int) (data0 : List api_Jump) (a1 : Int) (b2 : Int) (i8 : Int) (j9 : Int) : Option ((List api_Jump × Int) ⊕ ((List api_Jump))) :=
  (lp (fun s => slices_insertionSortCmpFunc_api_Jump_l3 cmp3 a1 b2 i8 s.1 s.2) (data0, j9)).bind (fun rr => slices_insertionSortCmpFunc_api_Jump_j2 cmp3 rr a1 b2 i8)
noncomputable def slices_insertionSortCmpFunc_api_Jump_l1 (cmp3 : api_Jump → api_Jump → Option Int) (a1 : Int) (b2 : Int) (data0 : List api_Jump) (i8 : Int) : Option ((List api_Jump × Int) ⊕ ((List api_Jump))) :=
  cond (decide (i8 < b2))
  (slices_insertionSortCmpFunc_api_Jump_h3 cmp3 data0 a1 b2 i8 i8)
  (some (.inr data0))
noncomputable def slices_insertionSortCmpFunc_api_Jump_h1 (cmp3 : api_Jump → api_Jump → Option Int) (data0 : List api_Jump) (a1 : Int) (b2 : Int) (i8 : Int) : Option (List api_Jump) :=
  (lp (fun s => slices_insertionSortCmpFunc_api_Jump_l1 cmp3 a1 b2 s.1 s.2) (data0, i8)).bind (fun rr => some rr)
/-- slices.insertionSortCmpFunc[rescind/api.Jump] -/
noncomputable def s_slices_insertionSortCmpFunc_api_Jump (data0 : (List api_Jump)) (a1 : Int) (b2 : Int) (cmp3 : api_Jump → api_Jump → Option Int) : Option (List api_Jump) :=
  slices_insertionSortCmpFunc_api_Jump_h1 cmp3 data0 a1 b2 (IntKind.i64.wrap (a1 + (1 : Int)))

noncomputable def slices_swapRangeCmpFunc_api_Jump_l1 (cmp4 : api_Jump → api_Jump → Option Int) (a1 : Int) (b2 : Int) (n3 : Int) (data0 : List api_Jump) (i10 : Int) : Option ((List api_Jump × Int) ⊕ ((List api_Jump))) :=
  cond (decide (i10 < n3))
  (asrt (0 ≤ (IntKind.i64.wrap (b2 + i10)) ∧ (IntKind.i64.wrap (b2 + i10)) < ((List.length data0 : Nat) : Int)) <|
  asrt (0 ≤ (IntKind.i64.wrap (a1 + i10)) ∧ (IntKind.i64.wrap (a1 + i10)) < ((List.length data0 : Nat) : Int)) <|
  asrt (0 ≤ (IntKind.i64.wrap (a1 + i10)) ∧ (IntKind.i64.wrap (a1 + i10)) < ((List.length data0 : Nat) : Int)) <|
  asrt (0 ≤ (IntKind.i64.wrap (b2 + i10)) ∧ (IntKind.i64.wrap (b2 + i10)) < ((List.length data0 : Nat) : Int)) <|
  some (.inl (List.set (List.set data0 (Int.toNat (IntKind.i64.wrap (a1 + i10))) (List.getD data0 (Int.toNat (IntKind.i64.wrap (b2 + i10))) default)) (Int.toNat (IntKind.i64.wrap (b2 + i10))) (List.getD data0 (Int.toNat (IntKind.i64.wrap (a1 + i10))) default), IntKind.i64.wrap (i10 + (1 : Int)))))
  (some (.inr data0))
noncomputable def slices_swapRangeCmpFunc_api_Jump_h1 (cmp4 : api_Jump → api_Jump → Option Int) (data0 : List api_Jump) (a1 : Int) (b2 : Int) (n3 : Int) (i10 : Int) : Option (List api_Jump) :=
  (lp (fun s => slices_swapRangeCmpFunc_api_Jump_l1 cmp4 a1 b2 n3 s.1 s.2) (data0, i10)).bind (fun rr => some rr)
/-- slices.swapRangeCmpFunc[rescind/api.Jump] -/
noncomputable def s_slices_swapRangeCmpFunc_api_Jump (data0 : (List api_Jump)) (a1 : Int) (b2 : Int) (n3 : Int) (cmp4 : api_Jump → api_Jump → Option Int) : Option (List api_Jump) :=
  slices_swapRangeCmpFunc_api_Jump_h1 cmp4 data0 a1 b2 n3 (0 : Int)

noncomputable def slices_rotateCmpFunc_api_Jump_j1 (cmp4 : api_Jump → api_Jump → Option Int) (data0 : List api_Jump) (m2 : Int) (i10 : Int) : Option (List api_Jump) :=
  (s_slices_swapRangeCmpFunc_api_Jump data0 (IntKind.i64.wrap (m2 - i10)) m2 i10 cmp4).bind fun x1 =>
  some x1
noncomputable def slices_rotateCmpFunc_api_Jump_l2 (cmp4 : api_Jump → api_Jump → Option Int) (m2 : Int) (data0 : List api_Jump) (i10 : Int) (j11 : Int) : Option ((List api_Jump × Int × Int) ⊕ ((List api_Jump × Int))) :=
  cond (!decide (i10 = j11))
  (cond (decide (j11 < i10))
  ((s_slices_swapRangeCmpFunc_api_Jump data0 (IntKind.i64.wrap (m2 - i10)) m2 j11 cmp4).bind fun x4 =>
  some (.inl (x4, IntKind.i64.wrap (i10 - j11), j11)))
  ((s_slices_swapRangeCmpFunc_api_Jump data0 (IntKind.i64.wrap (m2 - i10)) (IntKind.i64.wrap ((IntKind.i64.wrap (m2 + j11)) - i10)) i10 cmp4).bind fun x7 =>
  some (.inl (x7, i10, IntKind.i64.wrap (j11 - i10)))))
  (some (.inr (data0, i10)))
noncomputable def slices_rotateCmpFunc_api_Jump_h2 (cmp4 : api_Jump → api_Jump → Option Int) (data0 : List api_Jump) (m2 : Int) (i10 : Int) (j11 : Int) : Option (List api_Jump) :=
  (lp (fun s => slices_rotateCmpFunc_api_Jump_l2 cmp4 m2 s.1 s.2.1 s.2.2) (data0, i10, j11)).bind (fun rr => slices_rotateCmpFunc_api_Jump_j1 cmp4 rr.1 m2 rr.2)
/-- slices.rotateCmpFunc[rescind/api.Jump] -/
noncomputable def s_slices_rotateCmpFunc_api_Jump (data0 : (List api_Jump)) (a1 : Int) (m2 : Int) (b3 : Int) (cmp4 : api_Jump → api_Jump → Option Int) : Option (List api_Jump) :=
  slices_rotateCmpFunc_api_Jump_h2 cmp4 data0 m2 (IntKind.i64.wrap (m2 - a1)) (IntKind.i64.wrap (b3 - m2))

noncomputable def slices_symMergeCmpFunc_api_Jump_j6 (cmp4 : api_Jump → api_Jump → Option Int) (rec : (List api_Jump) → Int → Int → Int → Option (List api_Jump)) (data0 : List api_Jump) (b3 : Int) (mid18 : Int) (end24 : Int) : Option (List api_Jump) :=
  cond ((decide (mid18 < end24)) && (decide (end24 < b3)))
  ((rec data0 mid18 end24 b3).bind fun x2 =>
  some x2)
  (some data0)
noncomputable def slices_symMergeCmpFunc_api_Jump_j5 (cmp4 : api_Jump → api_Jump → Option Int) (rec : (List api_Jump) → Int → Int → Int → Option (List api_Jump)) (data0 : List api_Jump) (a1 : Int) (b3 : Int) (mid18 : Int) (start20 : Int) (end24 : Int) : Option (List api_Jump) :=
  cond ((decide (a1 < start20)) && (decide (start20 < mid18)))
  ((rec data0 a1 start20 mid18).bind fun x6 =>
  slices_symMergeCmpFunc_api_Jump_j6 cmp4 rec x6 b3 mid18 end24)
  (slices_symMergeCmpFunc_api_Jump_j6 cmp4 rec data0 b3 mid18 end24)
noncomputable def slices_symMergeCmpFunc_api_Jump_j4 (cmp4 : api_Jump → api_Jump → Option Int) (rec : (List api_Jump) → Int → Int → Int → Option (List api_Jump)) (data0 : List api_Jump) (a1 : Int) (m2 : Int) (b3 : Int) (mid18 : Int) (n19 : Int) (start20 : Int) : Option (List api_Jump) :=
  cond ((decide (start20 < m2)) && (decide (m2 < (IntKind.i64.wrap (n19 - start20)))))
  ((s_slices_rotateCmpFunc_api_Jump data0 start20 m2 (IntKind.i64.wrap (n19 - start20)) cmp4).bind fun x10 =>
  slices_symMergeCmpFunc_api_Jump_j5 cmp4 rec x10 a1 b3 mid18 start20 (IntKind.i64.wrap (n19 - start20)))
  (slices_symMergeCmpFunc_api_Jump_j5 cmp4 rec data0 a1 b3 mid18 start20 (IntKind.i64.wrap (n19 - start20)))
noncomputable def slices_symMergeCmpFunc_api_Jump_l7 (cmp4 : api_Jump → api_Jump → Option Int) (rec : (List api_Jump) → Int → Int → Int → Option (List api_Jump)) (a1 : Int) (m2 : Int) (b3 : Int) (mid18 : Int) (n19 : Int) (p22 : Int) (data0 : List api_Jump) (start20 : Int) (r21 : Int) : Option ((List api_Jump × Int × Int) ⊕ ((List api_Jump × Int))) :=
  cond (decide (start20 < r21))
  (asrt (0 ≤ (1 : Int)) <|
  asrt (0 ≤ (IntKind.i64.wrap (p22 - (IntKind.i64.wrap (Int.fdiv (IntKind.u64.wrap (IntKind.i64.wrap (start20 + r21))) (2 ^ (min (Int.toNat (1 : Int)) 64)))))) ∧ (IntKind.i64.wrap (p22 - (IntKind.i64.wrap (Int.fdiv (IntKind.u64.wrap (IntKind.i64.wrap (start20 + r21))) (2 ^ (min (Int.toNat (1 : Int)) 64)))))) < ((List.length data0 : Nat) : Int)) <|
  asrt (0 ≤ (IntKind.i64.wrap (Int.fdiv (IntKind.u64.wrap (IntKind.i64.wrap (start20 + r21))) (2 ^ (min (Int.toNat (1 : Int)) 64)))) ∧ (IntKind.i64.wrap (Int.fdiv (IntKind.u64.wrap (IntKind.i64.wrap (start20 + r21))) (2 ^ (min (Int.toNat (1 : Int)) 64)))) < ((List.length data0 : Nat) : Int)) <|
  (cmp4 (List.getD data0 (Int.toNat (IntKind.i64.wrap (p22 - (IntKind.i64.wrap (Int.fdiv (IntKind.u64.wrap (IntKind.i64.wrap (start20 + r21))) (2 ^ (min (Int.toNat (1 : Int)) 64))))))) default) (List.getD data0 (Int.toNat (IntKind.i64.wrap (Int.fdiv (IntKind.u64.wrap (IntKind.i64.wrap (start20 + r21))) (2 ^ (min (Int.toNat (1 : Int)) 64))))) default)).bind fun x17 =>
  cond (!(decide (x17 < (0 : Int))))
  (some (.inl (data0, IntKind.i64.wrap ((IntKind.i64.wrap (Int.fdiv (IntKind.u64.wrap (IntKind.i64.wrap (start20 + r21))) (2 ^ (min (Int.toNat (1 : Int)) 64)))) + (1 : Int)), r21)))
  (some (.inl (data0, start20, IntKind.i64.wrap (Int.fdiv (IntKind.u64.wrap (IntKind.i64.wrap (start20 + r21))) (2 ^ (min (Int.toNat (1 : Int)) 64)))))))
  (some (.inr (data0, start20)))
noncomputable def slices_symMergeCmpFunc_api_Jump_h7 (cmp4 : api_Jump → api_Jump → Option Int) (rec : (List api_Jump) → Int → Int → Int → Option (List api_Jump)) (data0 : List api_Jump) (a1 : Int) (m2 : Int) (b3 : Int) (mid18 : Int) (n19 : Int) (start20 : Int) (r21 : Int) (p22 : Int) : Option (List api_Jump) :=
  (lp (fun s => slices_symMergeCmpFunc_api_Jump_l7 cmp4 rec a1 m2 b3 mid18 n19 p22 s.1 s.2.1 s.2.2) (data0, start20, r21)).bind (fun rr => slices_symMergeCmpFunc_api_Jump_j4 cmp4 rec rr.1 a1 m2 b3 mid18 n19 rr.2)
noncomputable def slices_symMergeCmpFunc_api_Jump_j3 (cmp4 : api_Jump → api_Jump → Option Int) (rec : (List api_Jump) → Int → Int → Int → Option (List api_Jump)) (data0 : List api_Jump) (a1 : Int) (m2 : Int) (b3 : Int) (mid18 : Int) (n19 : Int) (start20 : Int) (r21 : Int) : Option (List api_Jump) :=
  slices_symMergeCmpFunc_api_Jump_h7 cmp4 rec data0 a1 m2 b3 mid18 n19 start20 r21 (IntKind.i64.wrap (n19 - (1 : Int)))
noncomputable def slices_symMergeCmpFunc_api_Jump_j2 (cmp4 : api_Jump → api_Jump → Option Int) (rec : (List api_Jump) → Int → Int → Int → Option (List api_Jump)) (data0 : List api_Jump) (a1 : Int) (m2 : Int) (b3 : Int) : Option (List api_Jump) :=
  asrt (0 ≤ (1 : Int)) <|
  cond (decide ((IntKind.i64.wrap (Int.fdiv (IntKind.u64.wrap (IntKind.i64.wrap (a1 + b3))) (2 ^ (min (Int.toNat (1 : Int)) 64)))) < m2))
  (slices_symMergeCmpFunc_api_Jump_j3 cmp4 rec data0 a1 m2 b3 (IntKind.i64.wrap (Int.fdiv (IntKind.u64.wrap (IntKind.i64.wrap (a1 + b3))) (2 ^ (min (Int.toNat (1 : Int)) 64)))) (IntKind.i64.wrap ((IntKind.i64.wrap (Int.fdiv (IntKind.u64.wrap (IntKind.i64.wrap (a1 + b3))) (2 ^ (min (Int.toNat (1 : Int)) 64)))) + m2)) (IntKind.i64.wrap ((IntKind.i64.wrap ((IntKind.i64.wrap (Int.fdiv (IntKind.u64.wrap (IntKind.i64.wrap (a1 + b3))) (2 ^ (min (Int.toNat (1 : Int)) 64)))) + m2)) - b3)) (IntKind.i64.wrap (Int.fdiv (IntKind.u64.wrap (IntKind.i64.wrap (a1 + b3))) (2 ^ (min (Int.toNat (1 : Int)) 64)))))
  (slices_symMergeCmpFunc_api_Jump_j3 cmp4 rec data0 a1 m2 b3 (IntKind.i64.wrap (Int.fdiv (IntKind.u64.wrap (IntKind.i64.wrap (a1 + b3))) (2 ^ (min (Int.toNat (1 : Int)) 64)))) (IntKind.i64.wrap ((IntKind.i64.wrap (Int.fdiv (IntKind.u64.wrap (IntKind.i64.wrap (a1 + b3))) (2 ^ (min (Int.toNat (1 : Int)) 64)))) + m2)) a1 m2)
noncomputable def slices_symMergeCmpFunc_api_Jump_j9 (cmp4 : api_Jump → api_Jump → Option Int) (rec : (List api_Jump) → Int → Int → Int → Option (List api_Jump)) (data0 : List api_Jump) : Option (List api_Jump) :=
  some data0
noncomputable def slices_symMergeCmpFunc_api_Jump_l10 (cmp4 : api_Jump → api_Jump → Option Int) (rec : (List api_Jump) → Int → Int → Int → Option (List api_Jump)) (i14 : Int) (data0 : List api_Jump) (k17 : Int) : Option ((List api_Jump × Int) ⊕ ((List api_Jump))) :=
  cond (decide (i14 < k17))
  (asrt (0 ≤ (IntKind.i64.wrap (k17 - (1 : Int))) ∧ (IntKind.i64.wrap (k17 - (1 : Int))) < ((List.length data0 : Nat) : Int)) <|
  asrt (0 ≤ k17 ∧ k17 < ((List.length data0 : Nat) : Int)) <|
  asrt (0 ≤ k17 ∧ k17 < ((List.length data0 : Nat) : Int)) <|
  asrt (0 ≤ (IntKind.i64.wrap (k17 - (1 : Int))) ∧ (IntKind.i64.wrap (k17 - (1 : Int))) < ((List.length data0 : Nat) : Int)) <|
  some (.inl (List.set (List.set data0 (Int.toNat k17) (List.getD data0 (Int.toNat (IntKind.i64.wrap (k17 - (1 : Int)))) default)) (Int.toNat (IntKind.i64.wrap (k17 - (1 : Int)))) (List.getD data0 (Int.toNat k17) default), IntKind.i64.wrap (k17 - (1 : Int)))))
  (some (.inr data0))
noncomputable def slices_symMergeCmpFunc_api_Jump_h10 (cmp4 : api_Jump → api_Jump → Option Int) (rec : (List api_Jump) → Int → Int → Int → Option (List api_Jump)) (data0 : List api_Jump) (i14 : Int) (k17 : Int) : Option (List api_Jump) :=
  (lp (fun s => slices_symMergeCmpFunc_api_Jump_l10 cmp4 rec i14 s.1 s.2) (data0, k17)).bind (fun rr => slices_symMergeCmpFunc_api_Jump_j9 cmp4 rec rr)
noncomputable def slices_symMergeCmpFunc_api_Jump_j8 (cmp4 : api_Jump → api_Jump → Option Int) (rec : (List api_Jump) → Int → Int → Int → Option (List api_Jump)) (data0 : List api_Jump) (m2 : Int) (i14 : Int) : Option (List api_Jump) :=
  slices_symMergeCmpFunc_api_Jump_h10 cmp4 rec data0 i14 m2
noncomputable def slices_symMergeCmpFunc_api_Jump_l11 (cmp4 : api_Jump → api_Jump → Option Int) (rec : (List api_Jump) → Int → Int → Int → Option (List api_Jump)) (m2 : Int) (data0 : List api_Jump) (i14 : Int) (j15 : Int) : Option ((List api_Jump × Int × Int) ⊕ ((List api_Jump × Int))) :=
  cond (decide (i14 < j15))
  (asrt (0 ≤ (1 : Int)) <|
  asrt (0 ≤ m2 ∧ m2 < ((List.length data0 : Nat) : Int)) <|
  asrt (0 ≤ (IntKind.i64.wrap (Int.fdiv (IntKind.u64.wrap (IntKind.i64.wrap (i14 + j15))) (2 ^ (min (Int.toNat (1 : Int)) 64)))) ∧ (IntKind.i64.wrap (Int.fdiv (IntKind.u64.wrap (IntKind.i64.wrap (i14 + j15))) (2 ^ (min (Int.toNat (1 : Int)) 64)))) < ((List.length data0 : Nat) : Int)) <|
  (cmp4 (List.getD data0 (Int.toNat m2) default) (List.getD data0 (Int.toNat (IntKind.i64.wrap (Int.fdiv (IntKind.u64.wrap (IntKind.i64.wrap (i14 + j15))) (2 ^ (min (Int.toNat (1 : Int)) 64))))) default)).bind fun x31 =>
  cond (!(decide (x31 < (0 : Int))))
  (some (.inl (data0, IntKind.i64.wrap ((IntKind.i64.wrap (Int.fdiv (IntKind.u64.wrap (IntKind.i64.wrap (i14 + j15))) (2 ^ (min (Int.toNat (1 : Int)) 64)))) + (1 : Int)), j15)))
  (some (.inl (data0, i14, IntKind.i64.wrap (Int.fdiv (IntKind.u64.wrap (IntKind.i64.wrap (i14 + j15))) (2 ^ (min (Int.toNat (1 : Int)) 64)))))))
  (some (.inr (data0, i14)))
noncomputable def slices_symMergeCmpFunc_api_Jump_h11 (cmp4 : api_Jump → api_Jump → Option Int) (rec : (List api_Jump) → Int → Int → Int → Option (List api_Jump)) (data0 : List api_Jump) (m2 : Int) (i14 : Int) (j15 : Int) : Option (List api_Jump) :=
  (lp (fun s => slices_symMergeCmpFunc_api_Jump_l11 cmp4 rec m2 s.1 s.2.1 s.2.2) (data0, i14, j15)).bind (fun rr => slices_symMergeCmpFunc_api_Jump_j8 cmp4 rec rr.1 m2 rr.2)
noncomputable def slices_symMergeCmpFunc_api_Jump_j1 (cmp4 : api_Jump → api_Jump → Option Int) (rec : (List api_Jump) → Int → Int → Int → Option (List api_Jump)) (data0 : List api_Jump) (a1 : Int) (m2 : Int) (b3 : Int) : Option (List api_Jump) :=
  cond (decide ((IntKind.i64.wrap (b3 - m2)) = (1 : Int)))
  (slices_symMergeCmpFunc_api_Jump_h11 cmp4 rec data0 m2 a1 m2)
  (slices_symMergeCmpFunc_api_Jump_j2 cmp4 rec data0 a1 m2 b3)
noncomputable def slices_symMergeCmpFunc_api_Jump_j13 (cmp4 : api_Jump → api_Jump → Option Int) (rec : (List api_Jump) → Int → Int → Int → Option (List api_Jump)) (data0 : List api_Jump) : Option (List api_Jump) :=
  some data0
noncomputable def slices_symMergeCmpFunc_api_Jump_l14 (cmp4 : api_Jump → api_Jump → Option Int) (rec : (List api_Jump) → Int → Int → Int → Option (List api_Jump)) (i10 : Int) (data0 : List api_Jump) (k13 : Int) : Option ((List api_Jump × Int) ⊕ ((List api_Jump))) :=
  cond (decide (k13 < (IntKind.i64.wrap (i10 - (1 : Int)))))
  (asrt (0 ≤ (IntKind.i64.wrap (k13 + (1 : Int))) ∧ (IntKind.i64.wrap (k13 + (1 : Int))) < ((List.length data0 : Nat) : Int)) <|
  asrt (0 ≤ k13 ∧ k13 < ((List.length data0 : Nat) : Int)) <|
  asrt (0 ≤ k13 ∧ k13 < ((List.length data0 : Nat) : Int)) <|
  asrt (0 ≤ (IntKind.i64.wrap (k13 + (1 : Int))) ∧ (IntKind.i64.wrap (k13 + (1 : Int))) < ((List.length data0 : Nat) : Int)) <|
  some (.inl (List.set (List.set data0 (Int.toNat k13) (List.getD data0 (Int.toNat (IntKind.i64.wrap (k13 + (1 : Int)))) default)) (Int.toNat (IntKind.i64.wrap (k13 + (1 : Int)))) (List.getD data0 (Int.toNat k13) default), IntKind.i64.wrap (k13 + (1 : Int)))))
  (some (.inr data0))
noncomputable def slices_symMergeCmpFunc_api_Jump_h14 (cmp4 : api_Jump → api_Jump → Option Int) (rec : (List api_Jump) → Int → Int → Int → Option (List api_Jump)) (data0 : List api_Jump) (i10 : Int) (k13 : Int) : Option (List api_Jump) :=
  (lp (fun s => slices_symMergeCmpFunc_api_Jump_l14 cmp4 rec i10 s.1 s.2) (data0, k13)).bind (fun rr => slices_symMergeCmpFunc_api_Jump_j13 cmp4 rec rr)
noncomputable def slices_symMergeCmpFunc_api_Jump_j12 (cmp4 : api_Jump → api_Jump → Option Int) (rec : (List api_Jump) → Int → Int → Int → Option (List api_Jump)) (data0 : List api_Jump) (a1 : Int) (i10 : Int) : Option (List api_Jump) :=
  slices_symMergeCmpFunc_api_Jump_h14 cmp4 rec data0 i10 a1
noncomputable def slices_symMergeCmpFunc_api_Jump_l15 (cmp4 : api_Jump → api_Jump → Option Int) (rec : (List api_Jump) → Int → Int → Int → Option (List api_Jump)) (a1 : Int) (data0 : List api_Jump) (i10 : Int) (j11 : Int) : Option ((List api_Jump × Int × Int) ⊕ ((List api_Jump × Int))) :=
  cond (decide (i10 < j11))
  (asrt (0 ≤ (1 : Int)) <|
  asrt (0 ≤ (IntKind.i64.wrap (Int.fdiv (IntKind.u64.wrap (IntKind.i64.wrap (i10 + j11))) (2 ^ (min (Int.toNat (1 : Int)) 64)))) ∧ (IntKind.i64.wrap (Int.fdiv (IntKind.u64.wrap (IntKind.i64.wrap (i10 + j11))) (2 ^ (min (Int.toNat (1 : Int)) 64)))) < ((List.length data0 : Nat) : Int)) <|
  asrt (0 ≤ a1 ∧ a1 < ((List.length data0 : Nat) : Int)) <|
  (cmp4 (List.getD data0 (Int.toNat (IntKind.i64.wrap (Int.fdiv (IntKind.u64.wrap (IntKind.i64.wrap (i10 + j11))) (2 ^ (min (Int.toNat (1 : Int)) 64))))) default) (List.getD data0 (Int.toNat a1) default)).bind fun x45 =>
  cond (decide (x45 < (0 : Int)))
  (some (.inl (data0, IntKind.i64.wrap ((IntKind.i64.wrap (Int.fdiv (IntKind.u64.wrap (IntKind.i64.wrap (i10 + j11))) (2 ^ (min (Int.toNat (1 : Int)) 64)))) + (1 : Int)), j11)))
  (some (.inl (data0, i10, IntKind.i64.wrap (Int.fdiv (IntKind.u64.wrap (IntKind.i64.wrap (i10 + j11))) (2 ^ (min (Int.toNat (1 : Int)) 64)))))))
  (some (.inr (data0, i10)))
noncomputable def slices_symMergeCmpFunc_api_Jump_h15 (cmp4 : api_Jump → api_Jump → Option Int) (rec : (List api_Jump) → Int → Int → Int → Option (List api_Jump)) (data0 : List api_Jump) (a1 : Int) (i10 : Int) (j11 : Int) : Option (List api_Jump) :=
  (lp (fun s => slices_symMergeCmpFunc_api_Jump_l15 cmp4 rec a1 s.1 s.2.1 s.2.2) (data0, i10, j11)).bind (fun rr => slices_symMergeCmpFunc_api_Jump_j12 cmp4 rec rr.1 a1 rr.2)
noncomputable def slices_symMergeCmpFunc_api_Jump_step (cmp4 : api_Jump → api_Jump → Option Int) (rec : (List api_Jump) → Int → Int → Int → Option (List api_Jump)) (data0 : (List api_Jump)) (a1 : Int) (m2 : Int) (b3 : Int) : Option (List api_Jump) :=
  cond (decide ((IntKind.i64.wrap (m2 - a1)) = (1 : Int)))
  (slices_symMergeCmpFunc_api_Jump_h15 cmp4 rec data0 a1 m2 b3)
  (slices_symMergeCmpFunc_api_Jump_j1 cmp4 rec data0 a1 m2 b3)
noncomputable def slices_symMergeCmpFunc_api_Jump_at (cmp4 : api_Jump → api_Jump → Option Int) : Nat → (List api_Jump) → Int → Int → Int → Option (List api_Jump)
  | 0 => fun _ _ _ _ => none
  | k + 1 => slices_symMergeCmpFunc_api_Jump_step cmp4 (slices_symMergeCmpFunc_api_Jump_at cmp4 k)
/-- slices.symMergeCmpFunc[rescind/api.Jump] -/
noncomputable def s_slices_symMergeCmpFunc_api_Jump (data0 : (List api_Jump)) (a1 : Int) (m2 : Int) (b3 : Int) (cmp4 : api_Jump → api_Jump → Option Int) : Option (List api_Jump) := fixN (fun k => slices_symMergeCmpFunc_api_Jump_at cmp4 k data0 a1 m2 b3)

noncomputable def slices_stableCmpFunc_api_Jump_j4 (cmp2 : api_Jump → api_Jump → Option Int) (data0 : List api_Jump) (n1 : Int) (blockSize6 : Int) : Option ((List api_Jump × Int) ⊕ ((List api_Jump))) :=
  some (.inl (data0, IntKind.i64.wrap (blockSize6 * (2 : Int))))
noncomputable def slices_stableCmpFunc_api_Jump_j3 (cmp2 : api_Jump → api_Jump → Option Int) (data0 : List api_Jump) (n1 : Int) (blockSize6 : Int) (a7 : Int) : Option ((List api_Jump × Int) ⊕ ((List api_Jump))) :=
  cond (decide ((IntKind.i64.wrap (a7 + blockSize6)) < n1))
  ((s_slices_symMergeCmpFunc_api_Jump data0 a7 (IntKind.i64.wrap (a7 + blockSize6)) n1 cmp2).bind fun x4 =>
  slices_stableCmpFunc_api_Jump_j4 cmp2 x4 n1 blockSize6)
  (slices_stableCmpFunc_api_Jump_j4 cmp2 data0 n1 blockSize6)
noncomputable def slices_stableCmpFunc_api_Jump_l5 (cmp2 : api_Jump → api_Jump → Option Int) (n1 : Int) (blockSize6 : Int) (data0 : List api_Jump) (a7 : Int) (b8 : Int) : Option ((List api_Jump × Int × Int) ⊕ ((List api_Jump × Int))) :=
  cond (decide (b8 ≤ n1))
  ((s_slices_symMergeCmpFunc_api_Jump data0 a7 (IntKind.i64.wrap (a7 + blockSize6)) b8 cmp2).bind fun x8 =>
  some (.inl (x8, b8, IntKind.i64.wrap (b8 + (IntKind.i64.wrap ((2 : Int) * blockSize6))))))
  (some (.inr (data0, a7)))
noncomputable def slices_stableCmpFunc_api_Jump_h5 (cmp2 : api_Jump → api_Jump → Option Int) (data0 : List api_Jump) (n1 : Int) (blockSize6 : Int) (a7 : Int) (b8 : Int) : Option ((List api_Jump × Int) ⊕ ((List api_Jump))) :=
  (lp (fun s => slices_stableCmpFunc_api_Jump_l5 cmp2 n1 blockSize6 s.1 s.2.1 s.2.2) (data0, a7, b8)).bind (fun rr => slices_stableCmpFunc_api_Jump_j3 cmp2 rr.1 n1 blockSize6 rr.2)
noncomputable def slices_stableCmpFunc_api_Jump_l2 (cmp2 : api_Jump → api_Jump → Option Int) (n1 : Int) (data0 : List api_Jump) (blockSize6 : Int) : Option ((List api_Jump × Int) ⊕ ((List api_Jump))) :=
  cond (decide (blockSize6 < n1))
  (slices_stableCmpFunc_api_Jump_h5 cmp2 data0 n1 blockSize6 (0 : Int) (IntKind.i64.wrap ((2 : Int) * blockSize6)))
  (some (.inr data0))
noncomputable def slices_stableCmpFunc_api_Jump_h2 (cmp2 : api_Jump → api_Jump → Option Int) (data0 : List api_Jump) (n1 : Int) (blockSize6 : Int) : Option (List api_Jump) :=
  (lp (fun s => slices_stableCmpFunc_api_Jump_l2 cmp2 n1 s.1 s.2) (data0, blockSize6)).bind (fun rr => some rr)
noncomputable def slices_stableCmpFunc_api_Jump_j1 (cmp2 : api_Jump → api_Jump → Option Int) (data0 : List api_Jump) (n1 : Int) (blockSize6 : Int) (a7 : Int) : Option (List api_Jump) :=
  (s_slices_insertionSortCmpFunc_api_Jump data0 a7 n1 cmp2).bind fun x1 =>
  slices_stableCmpFunc_api_Jump_h2 cmp2 x1 n1 blockSize6
noncomputable def slices_stableCmpFunc_api_Jump_l6 (cmp2 : api_Jump → api_Jump → Option Int) (n1 : Int) (blockSize6 : Int) (data0 : List api_Jump) (a7 : Int) (b8 : Int) : Option ((List api_Jump × Int × Int) ⊕ ((List api_Jump × Int))) :=
  cond (decide (b8 ≤ n1))
  ((s_slices_insertionSortCmpFunc_api_Jump data0 a7 b8 cmp2).bind fun x13 =>
  some (.inl (x13, b8, IntKind.i64.wrap (b8 + blockSize6))))
  (some (.inr (data0, a7)))
noncomputable def slices_stableCmpFunc_api_Jump_h6 (cmp2 : api_Jump → api_Jump → Option Int) (data0 : List api_Jump) (n1 : Int) (blockSize6 : Int) (a7 : Int) (b8 : Int) : Option (List api_Jump) :=
  (lp (fun s => slices_stableCmpFunc_api_Jump_l6 cmp2 n1 blockSize6 s.1 s.2.1 s.2.2) (data0, a7, b8)).bind (fun rr => slices_stableCmpFunc_api_Jump_j1 cmp2 rr.1 n1 blockSize6 rr.2)
/-- slices.stableCmpFunc[rescind/api.Jump] -/
noncomputable def s_slices_stableCmpFunc_api_Jump (data0 : (List api_Jump)) (n1 : Int) (cmp2 : api_Jump → api_Jump → Option Int) : Option (List api_Jump) :=
  slices_stableCmpFunc_api_Jump_h6 cmp2 data0 n1 (20 : Int) (0 : Int) (20 : Int)

/-- slices.SortStableFunc[[]rescind/api.Jump,rescind/api.Jump] -/
noncomputable def s_slices_SortStableFunc_api_Jump_api_Jump (x0 : (List api_Jump)) (cmp1 : api_Jump → api_Jump → Option Int) : Option (List api_Jump) :=
  (s_slices_stableCmpFunc_api_Jump x0 ((List.length x0 : Nat) : Int) cmp1).bind fun x1 =>
  some x1

/-- cmp.isNaN[int] -/
noncomputable def s_cmp_isNaN_int (x0 : Int) : Option Bool :=
  some (!decide (x0 = x0))

/-- cmp.Compare[int] -/
noncomputable def s_cmp_Compare_int (x0 : Int) (y1 : Int) : Option Int :=
  (s_cmp_isNaN_int x0).bind fun x1 =>
  (s_cmp_isNaN_int y1).bind fun x4 =>
  cond x1
  (cond x4
  (some (0 : Int))
  (some (-1 : Int)))
  (cond x4
  (some (1 : Int))
  (cond (decide (x0 < y1))
  (some (-1 : Int))
  (cond (decide (y1 < x0))
  (some (1 : Int))
  (some (0 : Int)))))

/-- rescind/step.Norm$3 -/
noncomputable def s_step_Norm_3 (a0 : api_Jump) (b1 : api_Jump) : Option Int :=
  (s_cmp_Compare_int a0.At b1.At).bind fun x3 =>
  some x3

noncomputable def step_May_j1  : Option Bool :=
  some true
noncomputable def step_May_l2 (t9 : (List api_Jump)) (t10 : Int) (last3 : Int) (t11 : Int) : Option ((Int × Int) ⊕ (Unit ⊕ Bool)) :=
  cond (decide (t11 < t10))
  (asrt (0 ≤ t11 ∧ t11 < ((List.length t9 : Nat) : Int)) <|
  (gcall (!(((decide (((List.getD t9 (Int.toNat t11) default).At) ≤ last3)) || (decide ((1125899906842624 : Int) ≤ ((List.getD t9 (Int.toNat t11) default).At)))) || (decide (((List.getD t9 (Int.toNat t11) default).Net) = (0 : Int))))) (s_step_fair ((List.getD t9 (Int.toNat t11) default).Net))).bind fun x6 =>
  cond ((((decide (((List.getD t9 (Int.toNat t11) default).At) ≤ last3)) || (decide ((1125899906842624 : Int) ≤ ((List.getD t9 (Int.toNat t11) default).At)))) || (decide (((List.getD t9 (Int.toNat t11) default).Net) = (0 : Int)))) || (!x6))
  (some (.inr (.inr false)))
  (some (.inl ((List.getD t9 (Int.toNat t11) default).At, IntKind.i64.wrap (t11 + (1 : Int))))))
  (some (.inr (.inl ())))
noncomputable def step_May_h2 (last3 : Int) (t9 : (List api_Jump)) (t10 : Int) (t11 : Int) : Option Bool :=
  (lp (fun s => step_May_l2 t9 t10 s.1 s.2) (last3, t11)).bind (Sum.elim (fun rr => step_May_j1 ) (fun rr => some rr))
/-- rescind/step.May -/
noncomputable def s_step_May (f0 : (List api_Jump)) : Option Bool :=
  cond (decide ((1024 : Int) < ((List.length f0 : Nat) : Int)))
  (some false)
  (step_May_h2 (-2 : Int) f0 ((List.length f0 : Nat) : Int) (0 : Int))

/-- rescind/step.told -/
noncomputable def s_step_told (f0 : (List api_Jump)) : Option ((List api_Jump) × Int) :=
  (s_step_May f0).bind fun x1 =>
  cond (!x1)
  (some ([], (7 : Int)))
  (some (f0, (0 : Int)))

noncomputable def step_Norm_j1 (out5 : List api_Jump) : Option ((List api_Jump) × Int) :=
  (s_step_told out5).bind fun x14 =>
  some (x14.1, x14.2)
noncomputable def step_Norm_j3 (all4 : List api_Jump) (out5 : List api_Jump) (i6 : Int) (j7 : api_Jump) : Option ((List api_Jump × List api_Jump × Int) ⊕ ((List api_Jump))) :=
  cond ((!decide (j7.Net = (0 : Int))) && (decide (j7.At < (1125899906842624 : Int))))
  (asrt ((List.length out5 + List.length ([j7])) * 16 ≤ 140737488355328 ∧ List.length out5 + List.length ([j7]) ≤ 9223372036854775807) <|
  some (.inl (all4, out5 ++ ([j7]), i6)))
  (some (.inl (all4, out5, i6)))
noncomputable def step_Norm_l4  (all4 : List api_Jump) (out5 : List api_Jump) (i6 : Int) (j7 : api_Jump) : Option ((List api_Jump × List api_Jump × Int × api_Jump) ⊕ ((List api_Jump × List api_Jump × Int × api_Jump))) :=
  asrt ((((decide (i6 < ((List.length all4 : Nat) : Int)))) = true → 0 ≤ i6 ∧ i6 < ((List.length all4 : Nat) : Int))) <|
  cond ((decide (i6 < ((List.length all4 : Nat) : Int))) && (decide (((List.getD all4 (Int.toNat i6) default).At) = j7.At)))
  (asrt (0 ≤ i6 ∧ i6 < ((List.length all4 : Nat) : Int)) <|
  some (.inl (all4, out5, IntKind.i64.wrap (i6 + (1 : Int)), api_Jump.mk j7.At (IntKind.i64.wrap (j7.Net + ((List.getD all4 (Int.toNat i6) default).Net))))))
  (some (.inr (all4, out5, i6, j7)))
noncomputable def step_Norm_h4 (all4 : List api_Jump) (out5 : List api_Jump) (i6 : Int) (j7 : api_Jump) : Option ((List api_Jump × List api_Jump × Int) ⊕ ((List api_Jump))) :=
  (lp (fun s => step_Norm_l4 s.1 s.2.1 s.2.2.1 s.2.2.2) (all4, out5, i6, j7)).bind (fun rr => step_Norm_j3 rr.1 rr.2.1 rr.2.2.1 rr.2.2.2)
noncomputable def step_Norm_l2  (all4 : List api_Jump) (out5 : List api_Jump) (i6 : Int) : Option ((List api_Jump × List api_Jump × Int) ⊕ ((List api_Jump))) :=
  cond (decide (i6 < ((List.length all4 : Nat) : Int)))
  (asrt (0 ≤ i6 ∧ i6 < ((List.length all4 : Nat) : Int)) <|
  step_Norm_h4 all4 out5 i6 (api_Jump.mk ((List.getD all4 (Int.toNat i6) default).At) 0))
  (some (.inr out5))
noncomputable def step_Norm_h2 (all4 : List api_Jump) (out5 : List api_Jump) (i6 : Int) : Option ((List api_Jump) × Int) :=
  (lp (fun s => step_Norm_l2 s.1 s.2.1 s.2.2) (all4, out5, i6)).bind (fun rr => step_Norm_j1 rr)
/-- rescind/step.Norm -/
noncomputable def s_step_Norm (l0 : (List api_Jump)) : Option ((List api_Jump) × Int) :=
  (s_slices_ContainsFunc_api_Jump_api_Jump l0 (fun y0 => s_step_Norm_1 y0)).bind fun x1 =>
  cond x1
  (some ([], (2 : Int)))
  ((s_slices_ContainsFunc_api_Jump_api_Jump l0 (fun y0 => s_step_Norm_2 y0)).bind fun x4 =>
  cond x4
  (some ([], (13 : Int)))
  ((s_slices_Clone_api_Jump_api_Jump l0).bind fun x7 =>
  (s_slices_SortStableFunc_api_Jump_api_Jump x7 (fun y0 y1 => s_step_Norm_3 y0 y1)).bind fun x10 =>
  step_Norm_h2 x10 ([] : List api_Jump) (0 : Int)))

noncomputable def step_both_j1 (by2 : Int → Int → Option Int) (out8 : List api_Jump) : Option ((List api_Jump) × Int) :=
  (s_step_told out8).bind fun x8 =>
  some (x8.1, x8.2)
noncomputable def step_both_j6 (by2 : Int → Int → Option Int) (f0 : (List api_Jump)) (g1 : (List api_Jump)) (out8 : List api_Jump) (a9 : Int) (b10 : Int) (was11 : Int) (at12 : Int) : Option (((List api_Jump) × (List api_Jump) × List api_Jump × Int × Int × Int) ⊕ ((List api_Jump))) :=
  (by2 a9 b10).bind fun x17 =>
  cond (!decide (x17 = was11))
  (asrt ((List.length out8 + List.length ([api_Jump.mk at12 (IntKind.i64.wrap (x17 - was11))])) * 16 ≤ 140737488355328 ∧ List.length out8 + List.length ([api_Jump.mk at12 (IntKind.i64.wrap (x17 - was11))]) ≤ 9223372036854775807) <|
  some (.inl (f0, g1, out8 ++ ([api_Jump.mk at12 (IntKind.i64.wrap (x17 - was11))]), a9, b10, x17)))
  (some (.inl (f0, g1, out8, a9, b10, was11)))
noncomputable def step_both_j5 (by2 : Int → Int → Option Int) (f0 : (List api_Jump)) (g1 : (List api_Jump)) (out8 : List api_Jump) (a9 : Int) (b10 : Int) (was11 : Int) (at12 : Int) : Option (((List api_Jump) × (List api_Jump) × List api_Jump × Int × Int × Int) ⊕ ((List api_Jump))) :=
  asrt ((((decide ((0 : Int) < ((List.length g1 : Nat) : Int)))) = true → 0 ≤ (0 : Int) ∧ (0 : Int) < ((List.length g1 : Nat) : Int))) <|
  cond ((decide ((0 : Int) < ((List.length g1 : Nat) : Int))) && (decide (((List.getD g1 (Int.toNat (0 : Int)) default).At) = at12)))
  (asrt (0 ≤ (0 : Int) ∧ (0 : Int) < ((List.length g1 : Nat) : Int)) <|
  asrt (0 ≤ (1 : Int) ∧ (1 : Int) ≤ ((List.length g1 : Nat) : Int)) <|
  step_both_j6 by2 f0 (List.drop (Int.toNat (1 : Int)) g1) out8 a9 (IntKind.i64.wrap (b10 + ((List.getD g1 (Int.toNat (0 : Int)) default).Net))) was11 at12)
  (step_both_j6 by2 f0 g1 out8 a9 b10 was11 at12)
noncomputable def step_both_j4 (by2 : Int → Int → Option Int) (f0 : (List api_Jump)) (g1 : (List api_Jump)) (out8 : List api_Jump) (a9 : Int) (b10 : Int) (was11 : Int) (at12 : Int) : Option (((List api_Jump) × (List api_Jump) × List api_Jump × Int × Int × Int) ⊕ ((List api_Jump))) :=
  asrt ((((decide ((0 : Int) < ((List.length f0 : Nat) : Int)))) = true → 0 ≤ (0 : Int) ∧ (0 : Int) < ((List.length f0 : Nat) : Int))) <|
  cond ((decide ((0 : Int) < ((List.length f0 : Nat) : Int))) && (decide (((List.getD f0 (Int.toNat (0 : Int)) default).At) = at12)))
  (asrt (0 ≤ (0 : Int) ∧ (0 : Int) < ((List.length f0 : Nat) : Int)) <|
  asrt (0 ≤ (1 : Int) ∧ (1 : Int) ≤ ((List.length f0 : Nat) : Int)) <|
  step_both_j5 by2 (List.drop (Int.toNat (1 : Int)) f0) g1 out8 (IntKind.i64.wrap (a9 + ((List.getD f0 (Int.toNat (0 : Int)) default).Net))) b10 was11 at12)
  (step_both_j5 by2 f0 g1 out8 a9 b10 was11 at12)
noncomputable def step_both_j3 (by2 : Int → Int → Option Int) (f0 : (List api_Jump)) (g1 : (List api_Jump)) (out8 : List api_Jump) (a9 : Int) (b10 : Int) (was11 : Int) (at12 : Int) : Option (((List api_Jump) × (List api_Jump) × List api_Jump × Int × Int × Int) ⊕ ((List api_Jump))) :=
  cond (decide ((0 : Int) < ((List.length g1 : Nat) : Int)))
  (asrt (0 ≤ (0 : Int) ∧ (0 : Int) < ((List.length g1 : Nat) : Int)) <|
  step_both_j4 by2 f0 g1 out8 a9 b10 was11 (if ((List.getD g1 (Int.toNat (0 : Int)) default).At) < at12 then ((List.getD g1 (Int.toNat (0 : Int)) default).At) else at12))
  (step_both_j4 by2 f0 g1 out8 a9 b10 was11 at12)
noncomputable def step_both_l2 (by2 : Int → Int → Option Int)  (f0 : (List api_Jump)) (g1 : (List api_Jump)) (out8 : List api_Jump) (a9 : Int) (b10 : Int) (was11 : Int) : Option (((List api_Jump) × (List api_Jump) × List api_Jump × Int × Int × Int) ⊕ ((List api_Jump))) :=
  cond ((decide ((0 : Int) < ((List.length f0 : Nat) : Int))) || (decide ((0 : Int) < ((List.length g1 : Nat) : Int))))
  (cond (decide ((0 : Int) < ((List.length f0 : Nat) : Int)))
  (asrt (0 ≤ (0 : Int) ∧ (0 : Int) < ((List.length f0 : Nat) : Int)) <|
  step_both_j3 by2 f0 g1 out8 a9 b10 was11 ((List.getD f0 (Int.toNat (0 : Int)) default).At))
  (step_both_j3 by2 f0 g1 out8 a9 b10 was11 (1125899906842624 : Int)))
  (some (.inr out8))
noncomputable def step_both_h2 (by2 : Int → Int → Option Int) (f0 : (List api_Jump)) (g1 : (List api_Jump)) (out8 : List api_Jump) (a9 : Int) (b10 : Int) (was11 : Int) : Option ((List api_Jump) × Int) :=
  (lp (fun s => step_both_l2 by2 s.1 s.2.1 s.2.2.1 s.2.2.2.1 s.2.2.2.2.1 s.2.2.2.2.2) (f0, g1, out8, a9, b10, was11)).bind (fun rr => step_both_j1 by2 rr)
/-- rescind/step.both -/
noncomputable def s_step_both (f0 : (List api_Jump)) (g1 : (List api_Jump)) (by2 : Int → Int → Option Int) : Option ((List api_Jump) × Int) :=
  (s_step_May f0).bind fun x1 =>
  (gcall (!(!x1)) (s_step_May g1)).bind fun x4 =>
  cond ((!x1) || (!x4))
  (some ([], (2 : Int)))
  (step_both_h2 by2 f0 g1 ([] : List api_Jump) (0 : Int) (0 : Int) (0 : Int))

/-- rescind/step.Mul$1 -/
noncomputable def s_step_Mul_1 (a0 : Int) (b1 : Int) : Option Int :=
  some (IntKind.i64.wrap (a0 * b1))

/-- rescind/step.Mul -/
noncomputable def s_step_Mul (f0 : (List api_Jump)) (g1 : (List api_Jump)) : Option ((List api_Jump) × Int) :=
  (s_step_both f0 g1 (fun y0 y1 => s_step_Mul_1 y0 y1)).bind fun x1 =>
  some (x1.1, x1.2)

noncomputable def ref09_Same_j1  : Option Bool :=
  some true
noncomputable def ref09_Same_l2 (f0 : (List api_Jump)) (g1 : (List api_Jump)) (i5 : Int) : Option ((Int) ⊕ (Unit ⊕ Bool)) :=
  cond (decide (i5 < ((List.length f0 : Nat) : Int)))
  (asrt (0 ≤ i5 ∧ i5 < ((List.length f0 : Nat) : Int)) <|
  asrt (0 ≤ i5 ∧ i5 < ((List.length g1 : Nat) : Int)) <|
  cond (!((decide (((List.getD f0 (Int.toNat i5) default).At) = ((List.getD g1 (Int.toNat i5) default).At))) && ((decide (((List.getD f0 (Int.toNat i5) default).Net) = ((List.getD g1 (Int.toNat i5) default).Net))) && true)))
  (some (.inr (.inr false)))
  (some (.inl (IntKind.i64.wrap (i5 + (1 : Int))))))
  (some (.inr (.inl ())))
noncomputable def ref09_Same_h2 (f0 : (List api_Jump)) (g1 : (List api_Jump)) (i5 : Int) : Option Bool :=
  (lp (fun s => ref09_Same_l2 f0 g1 s) i5).bind (Sum.elim (fun rr => ref09_Same_j1 ) (fun rr => some rr))
/-- rescind/rescindref09.Same -/
noncomputable def s_ref09_Same (f0 : (List api_Jump)) (g1 : (List api_Jump)) : Option Bool :=
  cond (!decide (((List.length f0 : Nat) : Int) = ((List.length g1 : Nat) : Int)))
  (some false)
  (ref09_Same_h2 f0 g1 (0 : Int))

noncomputable def step_At_j1 (v5 : Int) : Option Int :=
  some v5
noncomputable def step_At_l2 (t1 : Int) (t11 : (List api_Jump)) (t12 : Int) (v5 : Int) (t13 : Int) : Option ((Int × Int) ⊕ (Int)) :=
  cond (decide (t13 < t12))
  (asrt (0 ≤ t13 ∧ t13 < ((List.length t11 : Nat) : Int)) <|
  cond (decide (t1 < ((List.getD t11 (Int.toNat t13) default).At)))
  (some (.inr v5))
  (some (.inl (IntKind.i64.wrap (v5 + ((List.getD t11 (Int.toNat t13) default).Net)), IntKind.i64.wrap (t13 + (1 : Int))))))
  (some (.inr v5))
noncomputable def step_At_h2 (t1 : Int) (v5 : Int) (t11 : (List api_Jump)) (t12 : Int) (t13 : Int) : Option Int :=
  (lp (fun s => step_At_l2 t1 t11 t12 s.1 s.2) (v5, t13)).bind (fun rr => step_At_j1 rr)
/-- rescind/step.At -/
noncomputable def s_step_At (f0 : (List api_Jump)) (t1 : Int) : Option Int :=
  (s_step_May f0).bind fun x1 =>
  cond (!x1)
  (some (0 : Int))
  (step_At_h2 t1 (0 : Int) f0 ((List.length f0 : Nat) : Int) (0 : Int))

/-- rescind/rescindlaw09.live -/
noncomputable def s_law09_live  : Option Bool :=
  (s_step_Norm ([api_Jump.mk (5 : Int) (-1 : Int), api_Jump.mk (2 : Int) (1 : Int)])).bind fun x1 =>
  (s_step_Mul x1.1 ([api_Jump.mk (3 : Int) (1 : Int), api_Jump.mk (9 : Int) (-1 : Int)])).bind fun x4 =>
  (gcall ((decide (x1.2 = (0 : Int))) && (decide (x4.2 = (0 : Int)))) (s_ref09_Same x1.1 ([api_Jump.mk (2 : Int) (1 : Int), api_Jump.mk (5 : Int) (-1 : Int)]))).bind fun x7 =>
  (gcall (((decide (x1.2 = (0 : Int))) && (decide (x4.2 = (0 : Int)))) && x7) (s_ref09_Same x4.1 ([api_Jump.mk (3 : Int) (1 : Int), api_Jump.mk (5 : Int) (-1 : Int)]))).bind fun x10 =>
  (gcall ((((decide (x1.2 = (0 : Int))) && (decide (x4.2 = (0 : Int)))) && x7) && x10) (s_step_At x1.1 (4 : Int))).bind fun x13 =>
  some (((((decide (x1.2 = (0 : Int))) && (decide (x4.2 = (0 : Int)))) && x7) && x10) && (decide (x13 = (1 : Int))))

noncomputable def ref09_With_j2 (out5 : List Int) : Option (List Int) :=
  some out5
noncomputable def ref09_With_j1 (t1 : Int) (out5 : List Int) (put6 : Bool) : Option (List Int) :=
  cond (!put6)
  (asrt ((List.length out5 + List.length ([t1])) * 8 ≤ 140737488355328 ∧ List.length out5 + List.length ([t1]) ≤ 9223372036854775807) <|
  ref09_With_j2 (out5 ++ ([t1])))
  (ref09_With_j2 out5)
noncomputable def ref09_With_j4 (l0 : (List Int)) (t1 : Int) (out5 : List Int) (put6 : Bool) (i7 : Int) : Option ((List Int × Bool × Int) ⊕ ((List Int × Bool) ⊕ (List Int))) :=
  asrt (0 ≤ i7 ∧ i7 < ((List.length l0 : Nat) : Int)) <|
  asrt ((List.length out5 + List.length ([List.getD l0 (Int.toNat i7) default])) * 8 ≤ 140737488355328 ∧ List.length out5 + List.length ([List.getD l0 (Int.toNat i7) default]) ≤ 9223372036854775807) <|
  some (.inl (out5 ++ ([List.getD l0 (Int.toNat i7) default]), put6, IntKind.i64.wrap (i7 + (1 : Int))))
noncomputable def ref09_With_l3 (l0 : (List Int)) (t1 : Int) (out5 : List Int) (put6 : Bool) (i7 : Int) : Option ((List Int × Bool × Int) ⊕ ((List Int × Bool) ⊕ (List Int))) :=
  cond (decide (i7 < ((List.length l0 : Nat) : Int)))
  (asrt (0 ≤ i7 ∧ i7 < ((List.length l0 : Nat) : Int)) <|
  cond (decide ((List.getD l0 (Int.toNat i7) default) = t1))
  (some (.inr (.inr l0)))
  (asrt (0 ≤ i7 ∧ i7 < ((List.length l0 : Nat) : Int)) <|
  cond ((decide (t1 < (List.getD l0 (Int.toNat i7) default))) && (!put6))
  (asrt ((List.length out5 + List.length ([t1])) * 8 ≤ 140737488355328 ∧ List.length out5 + List.length ([t1]) ≤ 9223372036854775807) <|
  ref09_With_j4 l0 t1 (out5 ++ ([t1])) true i7)
  (ref09_With_j4 l0 t1 out5 put6 i7)))
  (some (.inr (.inl (out5, put6))))
noncomputable def ref09_With_h3 (l0 : (List Int)) (t1 : Int) (out5 : List Int) (put6 : Bool) (i7 : Int) : Option (List Int) :=
  (lp (fun s => ref09_With_l3 l0 t1 s.1 s.2.1 s.2.2) (out5, put6, i7)).bind (Sum.elim (fun rr => ref09_With_j1 t1 rr.1 rr.2) (fun rr => some rr))
/-- rescind/rescindref09.With -/
noncomputable def s_ref09_With (l0 : (List Int)) (t1 : Int) : Option (List Int) :=
  ref09_With_h3 l0 t1 ([] : List Int) false (0 : Int)

noncomputable def ref09_Value_j1 (v5 : Int) : Option Int :=
  some v5
noncomputable def ref09_Value_j3 (f0 : (List api_Jump)) (t1 : Int) (v5 : Int) (i6 : Int) : Option ((Int × Int) ⊕ (Int)) :=
  some (.inl (v5, IntKind.i64.wrap (i6 + (1 : Int))))
noncomputable def ref09_Value_l2 (f0 : (List api_Jump)) (t1 : Int) (v5 : Int) (i6 : Int) : Option ((Int × Int) ⊕ (Int)) :=
  cond (decide (i6 < ((List.length f0 : Nat) : Int)))
  (asrt (0 ≤ i6 ∧ i6 < ((List.length f0 : Nat) : Int)) <|
  cond (decide (((List.getD f0 (Int.toNat i6) default).At) ≤ t1))
  (asrt (0 ≤ i6 ∧ i6 < ((List.length f0 : Nat) : Int)) <|
  ref09_Value_j3 f0 t1 (IntKind.i64.wrap (v5 + ((List.getD f0 (Int.toNat i6) default).Net))) i6)
  (ref09_Value_j3 f0 t1 v5 i6))
  (some (.inr v5))
noncomputable def ref09_Value_h2 (f0 : (List api_Jump)) (t1 : Int) (v5 : Int) (i6 : Int) : Option Int :=
  (lp (fun s => ref09_Value_l2 f0 t1 s.1 s.2) (v5, i6)).bind (fun rr => ref09_Value_j1 rr)
/-- rescind/rescindref09.Value -/
noncomputable def s_ref09_Value (f0 : (List api_Jump)) (t1 : Int) : Option Int :=
  ref09_Value_h2 f0 t1 (0 : Int) (0 : Int)

noncomputable def ref09_May_j1  : Option Bool :=
  some true
noncomputable def ref09_May_l2 (f0 : (List api_Jump)) (i3 : Int) : Option ((Int) ⊕ (Unit ⊕ Bool)) :=
  cond (decide (i3 < ((List.length f0 : Nat) : Int)))
  (asrt (0 ≤ i3 ∧ i3 < ((List.length f0 : Nat) : Int)) <|
  asrt ((((!(decide (((List.getD f0 (Int.toNat i3) default).At) < (-1 : Int))))) = true → 0 ≤ i3 ∧ i3 < ((List.length f0 : Nat) : Int))) <|
  asrt ((((!((decide (((List.getD f0 (Int.toNat i3) default).At) < (-1 : Int))) || (decide ((1125899906842624 : Int) ≤ ((List.getD f0 (Int.toNat i3) default).At)))))) = true → 0 ≤ i3 ∧ i3 < ((List.length f0 : Nat) : Int))) <|
  asrt ((((!(((decide (((List.getD f0 (Int.toNat i3) default).At) < (-1 : Int))) || (decide ((1125899906842624 : Int) ≤ ((List.getD f0 (Int.toNat i3) default).At)))) || (decide (((List.getD f0 (Int.toNat i3) default).Net) = (0 : Int)))))) = true → 0 ≤ i3 ∧ i3 < ((List.length f0 : Nat) : Int))) <|
  asrt ((((!((((decide (((List.getD f0 (Int.toNat i3) default).At) < (-1 : Int))) || (decide ((1125899906842624 : Int) ≤ ((List.getD f0 (Int.toNat i3) default).At)))) || (decide (((List.getD f0 (Int.toNat i3) default).Net) = (0 : Int)))) || (decide ((1048576 : Int) < ((List.getD f0 (Int.toNat i3) default).Net)))))) = true → 0 ≤ i3 ∧ i3 < ((List.length f0 : Nat) : Int))) <|
  cond (((((decide (((List.getD f0 (Int.toNat i3) default).At) < (-1 : Int))) || (decide ((1125899906842624 : Int) ≤ ((List.getD f0 (Int.toNat i3) default).At)))) || (decide (((List.getD f0 (Int.toNat i3) default).Net) = (0 : Int)))) || (decide ((1048576 : Int) < ((List.getD f0 (Int.toNat i3) default).Net)))) || (decide (((List.getD f0 (Int.toNat i3) default).Net) < (-1048576 : Int))))
  (some (.inr (.inr false)))
  (asrt ((((decide ((0 : Int) < i3))) = true → 0 ≤ i3 ∧ i3 < ((List.length f0 : Nat) : Int))) <|
  asrt ((((decide ((0 : Int) < i3))) = true → 0 ≤ (IntKind.i64.wrap (i3 - (1 : Int))) ∧ (IntKind.i64.wrap (i3 - (1 : Int))) < ((List.length f0 : Nat) : Int))) <|
  cond ((decide ((0 : Int) < i3)) && (decide (((List.getD f0 (Int.toNat i3) default).At) ≤ ((List.getD f0 (Int.toNat (IntKind.i64.wrap (i3 - (1 : Int)))) default).At))))
  (some (.inr (.inr false)))
  (some (.inl (IntKind.i64.wrap (i3 + (1 : Int)))))))
  (some (.inr (.inl ())))
noncomputable def ref09_May_h2 (f0 : (List api_Jump)) (i3 : Int) : Option Bool :=
  (lp (fun s => ref09_May_l2 f0 s) i3).bind (Sum.elim (fun rr => ref09_May_j1 ) (fun rr => some rr))
/-- rescind/rescindref09.May -/
noncomputable def s_ref09_May (f0 : (List api_Jump)) : Option Bool :=
  cond (decide ((1024 : Int) < ((List.length f0 : Nat) : Int)))
  (some false)
  (ref09_May_h2 f0 (0 : Int))

noncomputable def ref09_Told_j1 (f6 : List api_Jump) : Option ((List api_Jump) × Int) :=
  (s_ref09_May f6).bind fun x2 =>
  cond (!x2)
  (some ([], (7 : Int)))
  (some (f6, (0 : Int)))
noncomputable def ref09_Told_j3 (places0 : (List Int)) (values1 : (List Int)) (f6 : List api_Jump) (i8 : Int) : Option ((List api_Jump × Int × Int) ⊕ ((List api_Jump))) :=
  asrt (0 ≤ i8 ∧ i8 < ((List.length values1 : Nat) : Int)) <|
  some (.inl (f6, List.getD values1 (Int.toNat i8) default, IntKind.i64.wrap (i8 + (1 : Int))))
noncomputable def ref09_Told_l2 (places0 : (List Int)) (values1 : (List Int)) (f6 : List api_Jump) (was7 : Int) (i8 : Int) : Option ((List api_Jump × Int × Int) ⊕ ((List api_Jump))) :=
  cond (decide (i8 < ((List.length places0 : Nat) : Int)))
  (asrt (0 ≤ i8 ∧ i8 < ((List.length values1 : Nat) : Int)) <|
  cond (!decide ((List.getD values1 (Int.toNat i8) default) = was7))
  (asrt (0 ≤ i8 ∧ i8 < ((List.length places0 : Nat) : Int)) <|
  asrt (0 ≤ i8 ∧ i8 < ((List.length values1 : Nat) : Int)) <|
  asrt ((List.length f6 + List.length ([api_Jump.mk (List.getD places0 (Int.toNat i8) default) (IntKind.i64.wrap ((List.getD values1 (Int.toNat i8) default) - was7))])) * 16 ≤ 140737488355328 ∧ List.length f6 + List.length ([api_Jump.mk (List.getD places0 (Int.toNat i8) default) (IntKind.i64.wrap ((List.getD values1 (Int.toNat i8) default) - was7))]) ≤ 9223372036854775807) <|
  ref09_Told_j3 places0 values1 (f6 ++ ([api_Jump.mk (List.getD places0 (Int.toNat i8) default) (IntKind.i64.wrap ((List.getD values1 (Int.toNat i8) default) - was7))])) i8)
  (ref09_Told_j3 places0 values1 f6 i8))
  (some (.inr f6))
noncomputable def ref09_Told_h2 (places0 : (List Int)) (values1 : (List Int)) (f6 : List api_Jump) (was7 : Int) (i8 : Int) : Option ((List api_Jump) × Int) :=
  (lp (fun s => ref09_Told_l2 places0 values1 s.1 s.2.1 s.2.2) (f6, was7, i8)).bind (fun rr => ref09_Told_j1 rr)
/-- rescind/rescindref09.Told -/
noncomputable def s_ref09_Told (places0 : (List Int)) (values1 : (List Int)) : Option ((List api_Jump) × Int) :=
  ref09_Told_h2 places0 values1 ([] : List api_Jump) (0 : Int) (0 : Int)

noncomputable def ref09_Norm_j3 (places5 : (List Int)) (values7 : List Int) : Option ((List api_Jump) × Int) :=
  (s_ref09_Told places5 values7).bind fun x2 =>
  some (x2.1, x2.2)
noncomputable def ref09_Norm_l4 (l0 : (List api_Jump)) (places5 : (List Int)) (values7 : List Int) (i8 : Int) : Option ((List Int × Int) ⊕ ((List Int))) :=
  cond (decide (i8 < ((List.length places5 : Nat) : Int)))
  (asrt (0 ≤ i8 ∧ i8 < ((List.length places5 : Nat) : Int)) <|
  (s_ref09_Value l0 (List.getD places5 (Int.toNat i8) default)).bind fun x8 =>
  asrt ((List.length values7 + List.length ([x8])) * 8 ≤ 140737488355328 ∧ List.length values7 + List.length ([x8]) ≤ 9223372036854775807) <|
  some (.inl (values7 ++ ([x8]), IntKind.i64.wrap (i8 + (1 : Int)))))
  (some (.inr values7))
noncomputable def ref09_Norm_h4 (l0 : (List api_Jump)) (places5 : (List Int)) (values7 : List Int) (i8 : Int) : Option ((List api_Jump) × Int) :=
  (lp (fun s => ref09_Norm_l4 l0 places5 s.1 s.2) (values7, i8)).bind (fun rr => ref09_Norm_j3 places5 rr)
noncomputable def ref09_Norm_j2 (l0 : (List api_Jump)) (places5 : (List Int)) : Option ((List api_Jump) × Int) :=
  ref09_Norm_h4 l0 places5 ([] : List Int) (0 : Int)
noncomputable def ref09_Norm_j6 (l0 : (List api_Jump)) (places5 : (List Int)) (i6 : Int) : Option (((List Int) × Int) ⊕ ((List Int) ⊕ ((List api_Jump) × Int))) :=
  some (.inl (places5, IntKind.i64.wrap (i6 + (1 : Int))))
noncomputable def ref09_Norm_l5 (l0 : (List api_Jump)) (places5 : (List Int)) (i6 : Int) : Option (((List Int) × Int) ⊕ ((List Int) ⊕ ((List api_Jump) × Int))) :=
  cond (decide (i6 < ((List.length l0 : Nat) : Int)))
  (asrt (0 ≤ i6 ∧ i6 < ((List.length l0 : Nat) : Int)) <|
  asrt ((((!(decide (((List.getD l0 (Int.toNat i6) default).At) < (-1 : Int))))) = true → 0 ≤ i6 ∧ i6 < ((List.length l0 : Nat) : Int))) <|
  cond ((decide (((List.getD l0 (Int.toNat i6) default).At) < (-1 : Int))) || (decide ((1125899906842624 : Int) < ((List.getD l0 (Int.toNat i6) default).At))))
  (some (.inr (.inr ([], (13 : Int)))))
  (asrt (0 ≤ i6 ∧ i6 < ((List.length l0 : Nat) : Int)) <|
  cond (decide (((List.getD l0 (Int.toNat i6) default).At) < (1125899906842624 : Int)))
  (asrt (0 ≤ i6 ∧ i6 < ((List.length l0 : Nat) : Int)) <|
  (s_ref09_With places5 ((List.getD l0 (Int.toNat i6) default).At)).bind fun x21 =>
  ref09_Norm_j6 l0 x21 i6)
  (ref09_Norm_j6 l0 places5 i6)))
  (some (.inr (.inl places5)))
noncomputable def ref09_Norm_h5 (l0 : (List api_Jump)) (places5 : (List Int)) (i6 : Int) : Option ((List api_Jump) × Int) :=
  (lp (fun s => ref09_Norm_l5 l0 s.1 s.2) (places5, i6)).bind (Sum.elim (fun rr => ref09_Norm_j2 l0 rr) (fun rr => some (rr.1, rr.2)))
noncomputable def ref09_Norm_j1 (l0 : (List api_Jump)) : Option ((List api_Jump) × Int) :=
  ref09_Norm_h5 l0 ([]) (0 : Int)
noncomputable def ref09_Norm_l7 (l0 : (List api_Jump)) (i4 : Int) : Option ((Int) ⊕ (Unit ⊕ ((List api_Jump) × Int))) :=
  cond (decide (i4 < ((List.length l0 : Nat) : Int)))
  (asrt (0 ≤ i4 ∧ i4 < ((List.length l0 : Nat) : Int)) <|
  asrt ((((!(decide ((1048576 : Int) < ((List.getD l0 (Int.toNat i4) default).Net))))) = true → 0 ≤ i4 ∧ i4 < ((List.length l0 : Nat) : Int))) <|
  cond ((decide ((1048576 : Int) < ((List.getD l0 (Int.toNat i4) default).Net))) || (decide (((List.getD l0 (Int.toNat i4) default).Net) < (-1048576 : Int))))
  (some (.inr (.inr ([], (2 : Int)))))
  (some (.inl (IntKind.i64.wrap (i4 + (1 : Int))))))
  (some (.inr (.inl ())))
noncomputable def ref09_Norm_h7 (l0 : (List api_Jump)) (i4 : Int) : Option ((List api_Jump) × Int) :=
  (lp (fun s => ref09_Norm_l7 l0 s) i4).bind (Sum.elim (fun rr => ref09_Norm_j1 l0) (fun rr => some (rr.1, rr.2)))
/-- rescind/rescindref09.Norm -/
noncomputable def s_ref09_Norm (l0 : (List api_Jump)) : Option ((List api_Jump) × Int) :=
  ref09_Norm_h7 l0 (0 : Int)

/-- rescind/rescindlaw09.StepNorms -/
noncomputable def s_law09_StepNorms (l0 : (List api_Jump)) : Option Bool :=
  (s_law09_few l0).bind fun x1 =>
  cond (!x1)
  ((s_law09_live ).bind fun x4 =>
  some x4)
  ((s_step_Norm l0).bind fun x7 =>
  (s_ref09_Norm l0).bind fun x10 =>
  (s_law09_live ).bind fun x13 =>
  (gcall (x13 && (decide (x7.2 = x10.2))) (s_ref09_Same x7.1 x10.1)).bind fun x16 =>
  (gcall ((!(!decide (x7.2 = (0 : Int)))) && ((x13 && (decide (x7.2 = x10.2))) && x16)) (s_step_May x7.1)).bind fun x19 =>
  (gcall (((x13 && (decide (x7.2 = x10.2))) && x16) && ((!decide (x7.2 = (0 : Int))) || x19)) (s_step_May l0)).bind fun x22 =>
  (gcall (((x13 && (decide (x7.2 = x10.2))) && x16) && ((!decide (x7.2 = (0 : Int))) || x19)) (s_ref09_May l0)).bind fun x25 =>
  some ((((x13 && (decide (x7.2 = x10.2))) && x16) && ((!decide (x7.2 = (0 : Int))) || x19)) && (x22 == x25)))

/-- rescind/step.Add$1 -/
noncomputable def s_step_Add_1 (a0 : Int) (b1 : Int) : Option Int :=
  some (IntKind.i64.wrap (a0 + b1))

/-- rescind/step.Add -/
noncomputable def s_step_Add (f0 : (List api_Jump)) (g1 : (List api_Jump)) : Option ((List api_Jump) × Int) :=
  (s_step_both f0 g1 (fun y0 y1 => s_step_Add_1 y0 y1)).bind fun x1 =>
  some (x1.1, x1.2)

/-- rescind/rescindlaw09.StepPoints -/
noncomputable def s_law09_StepPoints (f0 : (List api_Jump)) (g1 : (List api_Jump)) (t2 : Int) : Option Bool :=
  (s_step_May f0).bind fun x1 =>
  (gcall (!(!x1)) (s_step_May g1)).bind fun x4 =>
  cond ((!x1) || (!x4))
  ((s_law09_live ).bind fun x7 =>
  some x7)
  ((s_step_Add f0 g1).bind fun x10 =>
  (s_step_Mul f0 g1).bind fun x13 =>
  (s_step_At f0 t2).bind fun x16 =>
  (s_step_At g1 t2).bind fun x19 =>
  (gcall (decide (x10.2 = (0 : Int))) (s_step_At x10.1 t2)).bind fun x22 =>
  (gcall ((decide (x13.2 = (0 : Int))) && (!((decide (x10.2 = (0 : Int))) && (!decide (x22 = (IntKind.i64.wrap (x16 + x19))))))) (s_step_At x13.1 t2)).bind fun x25 =>
  cond (((decide (x10.2 = (0 : Int))) && (!decide (x22 = (IntKind.i64.wrap (x16 + x19))))) || ((decide (x13.2 = (0 : Int))) && (!decide (x25 = (IntKind.i64.wrap (x16 * x19))))))
  (some false)
  ((s_law09_live ).bind fun x28 =>
  some ((x28 && ((decide (x10.2 = (0 : Int))) || (decide (x10.2 = (7 : Int))))) && ((decide (x13.2 = (0 : Int))) || (decide (x13.2 = (7 : Int)))))))

/-- rescind/rescindlaw09.StepRing -/
noncomputable def s_law09_StepRing (f0 : (List api_Jump)) (g1 : (List api_Jump)) (h2 : (List api_Jump)) : Option Bool :=
  (s_step_Add f0 g1).bind fun x1 =>
  (s_step_Add g1 f0).bind fun x4 =>
  (s_step_Mul f0 g1).bind fun x7 =>
  (s_step_Mul g1 f0).bind fun x10 =>
  (gcall (!(!decide (x1.2 = x4.2))) (s_ref09_Same x1.1 x4.1)).bind fun x13 =>
  (gcall (!(((!decide (x1.2 = x4.2)) || (!x13)) || (!decide (x7.2 = x10.2)))) (s_ref09_Same x7.1 x10.1)).bind fun x16 =>
  cond ((((!decide (x1.2 = x4.2)) || (!x13)) || (!decide (x7.2 = x10.2))) || (!x16))
  (some false)
  ((s_step_Add g1 h2).bind fun x19 =>
  (s_step_Add x1.1 h2).bind fun x22 =>
  (s_step_Add f0 x19.1).bind fun x25 =>
  (gcall ((!(!decide (x22.2 = x25.2))) && ((decide (x1.2 = (0 : Int))) && (decide (x19.2 = (0 : Int))))) (s_ref09_Same x22.1 x25.1)).bind fun x28 =>
  cond (((decide (x1.2 = (0 : Int))) && (decide (x19.2 = (0 : Int)))) && ((!decide (x22.2 = x25.2)) || (!x28)))
  (some false)
  ((s_step_Mul f0 h2).bind fun x31 =>
  (s_step_Mul f0 x19.1).bind fun x34 =>
  (s_step_Add x7.1 x31.1).bind fun x37 =>
  cond (((!decide (x7.2 = (0 : Int))) || (!decide (x19.2 = (0 : Int)))) || (!decide (x31.2 = (0 : Int))))
  ((s_law09_live ).bind fun x40 =>
  some x40)
  ((s_law09_live ).bind fun x43 =>
  (gcall (x43 && (decide (x34.2 = x37.2))) (s_ref09_Same x34.1 x37.1)).bind fun x46 =>
  some ((x43 && (decide (x34.2 = x37.2))) && x46))))

noncomputable def ref09_Places_j2 (l5 : (List Int)) : Option (List Int) :=
  some l5
noncomputable def ref09_Places_l3 (g1 : (List api_Jump)) (l5 : (List Int)) (i7 : Int) : Option (((List Int) × Int) ⊕ ((List Int))) :=
  cond (decide (i7 < ((List.length g1 : Nat) : Int)))
  (asrt (0 ≤ i7 ∧ i7 < ((List.length g1 : Nat) : Int)) <|
  (s_ref09_With l5 ((List.getD g1 (Int.toNat i7) default).At)).bind fun x2 =>
  some (.inl (x2, IntKind.i64.wrap (i7 + (1 : Int)))))
  (some (.inr l5))
noncomputable def ref09_Places_h3 (g1 : (List api_Jump)) (l5 : (List Int)) (i7 : Int) : Option (List Int) :=
  (lp (fun s => ref09_Places_l3 g1 s.1 s.2) (l5, i7)).bind (fun rr => ref09_Places_j2 rr)
noncomputable def ref09_Places_j1 (g1 : (List api_Jump)) (l5 : (List Int)) : Option (List Int) :=
  ref09_Places_h3 g1 l5 (0 : Int)
noncomputable def ref09_Places_l4 (f0 : (List api_Jump)) (g1 : (List api_Jump)) (l5 : (List Int)) (i6 : Int) : Option (((List Int) × Int) ⊕ ((List Int))) :=
  cond (decide (i6 < ((List.length f0 : Nat) : Int)))
  (asrt (0 ≤ i6 ∧ i6 < ((List.length f0 : Nat) : Int)) <|
  (s_ref09_With l5 ((List.getD f0 (Int.toNat i6) default).At)).bind fun x8 =>
  some (.inl (x8, IntKind.i64.wrap (i6 + (1 : Int)))))
  (some (.inr l5))
noncomputable def ref09_Places_h4 (f0 : (List api_Jump)) (g1 : (List api_Jump)) (l5 : (List Int)) (i6 : Int) : Option (List Int) :=
  (lp (fun s => ref09_Places_l4 f0 g1 s.1 s.2) (l5, i6)).bind (fun rr => ref09_Places_j1 g1 rr)
/-- rescind/rescindref09.Places -/
noncomputable def s_ref09_Places (f0 : (List api_Jump)) (g1 : (List api_Jump)) : Option (List Int) :=
  ref09_Places_h4 f0 g1 ([]) (0 : Int)

noncomputable def ref09_Two_j1 (places8 : (List Int)) (values9 : List Int) : Option ((List api_Jump) × Int) :=
  (s_ref09_Told places8 values9).bind fun x11 =>
  some (x11.1, x11.2)
noncomputable def ref09_Two_j4 (f0 : (List api_Jump)) (g1 : (List api_Jump)) (what2 : Int) (places8 : (List Int)) (values9 : List Int) (i10 : Int) (v13 : Int) : Option ((List Int × Int) ⊕ ((List Int))) :=
  asrt ((List.length values9 + List.length ([v13])) * 8 ≤ 140737488355328 ∧ List.length values9 + List.length ([v13]) ≤ 9223372036854775807) <|
  some (.inl (values9 ++ ([v13]), IntKind.i64.wrap (i10 + (1 : Int))))
noncomputable def ref09_Two_j3 (f0 : (List api_Jump)) (g1 : (List api_Jump)) (what2 : Int) (places8 : (List Int)) (values9 : List Int) (i10 : Int) (a11 : Int) (b12 : Int) (v13 : Int) : Option ((List Int × Int) ⊕ ((List Int))) :=
  cond (decide (what2 = (2 : Int)))
  (cond (!decide (b12 = (0 : Int)))
  (ref09_Two_j4 f0 g1 what2 places8 values9 i10 (0 : Int))
  (ref09_Two_j4 f0 g1 what2 places8 values9 i10 a11))
  (ref09_Two_j4 f0 g1 what2 places8 values9 i10 v13)
noncomputable def ref09_Two_l2 (f0 : (List api_Jump)) (g1 : (List api_Jump)) (what2 : Int) (places8 : (List Int)) (values9 : List Int) (i10 : Int) : Option ((List Int × Int) ⊕ ((List Int))) :=
  cond (decide (i10 < ((List.length places8 : Nat) : Int)))
  (asrt (0 ≤ i10 ∧ i10 < ((List.length places8 : Nat) : Int)) <|
  (s_ref09_Value f0 (List.getD places8 (Int.toNat i10) default)).bind fun x17 =>
  asrt (0 ≤ i10 ∧ i10 < ((List.length places8 : Nat) : Int)) <|
  (s_ref09_Value g1 (List.getD places8 (Int.toNat i10) default)).bind fun x21 =>
  cond (decide (what2 = (1 : Int)))
  (ref09_Two_j3 f0 g1 what2 places8 values9 i10 x17 x21 (IntKind.i64.wrap (x17 * x21)))
  (ref09_Two_j3 f0 g1 what2 places8 values9 i10 x17 x21 (IntKind.i64.wrap (x17 + x21))))
  (some (.inr values9))
noncomputable def ref09_Two_h2 (f0 : (List api_Jump)) (g1 : (List api_Jump)) (what2 : Int) (places8 : (List Int)) (values9 : List Int) (i10 : Int) : Option ((List api_Jump) × Int) :=
  (lp (fun s => ref09_Two_l2 f0 g1 what2 places8 s.1 s.2) (values9, i10)).bind (fun rr => ref09_Two_j1 places8 rr)
/-- rescind/rescindref09.Two -/
noncomputable def s_ref09_Two (f0 : (List api_Jump)) (g1 : (List api_Jump)) (what2 : Int) : Option ((List api_Jump) × Int) :=
  (s_ref09_May f0).bind fun x1 =>
  (gcall (!(!x1)) (s_ref09_May g1)).bind fun x4 =>
  cond ((!x1) || (!x4))
  (some ([], (2 : Int)))
  ((s_ref09_Places f0 g1).bind fun x7 =>
  ref09_Two_h2 f0 g1 what2 x7 ([] : List Int) (0 : Int))

/-- rescind/step.Where$1 -/
noncomputable def s_step_Where_1 (a0 : Int) (b1 : Int) : Option Int :=
  cond (!decide (b1 = (0 : Int)))
  (some (0 : Int))
  (some a0)

/-- rescind/step.Where -/
noncomputable def s_step_Where (f0 : (List api_Jump)) (g1 : (List api_Jump)) : Option ((List api_Jump) × Int) :=
  (s_step_both f0 g1 (fun y0 y1 => s_step_Where_1 y0 y1)).bind fun x1 =>
  some (x1.1, x1.2)

/-- rescind/step.Neg$1 -/
noncomputable def s_step_Neg_1 (a0 : Int) (t1 : Int) : Option Int :=
  some (IntKind.i64.wrap (0 - a0))

/-- rescind/step.Neg -/
noncomputable def s_step_Neg (f0 : (List api_Jump)) : Option ((List api_Jump) × Int) :=
  (s_step_both f0 ([]) (fun y0 y1 => s_step_Neg_1 y0 y1)).bind fun x1 =>
  some (x1.1, x1.2)

noncomputable def ref09_Neg_j1 (g4 : List api_Jump) : Option ((List api_Jump) × Int) :=
  some (g4, (0 : Int))
noncomputable def ref09_Neg_l2 (f0 : (List api_Jump)) (g4 : List api_Jump) (i5 : Int) : Option ((List api_Jump × Int) ⊕ ((List api_Jump))) :=
  cond (decide (i5 < ((List.length f0 : Nat) : Int)))
  (asrt (0 ≤ i5 ∧ i5 < ((List.length f0 : Nat) : Int)) <|
  asrt (0 ≤ i5 ∧ i5 < ((List.length f0 : Nat) : Int)) <|
  asrt ((List.length g4 + List.length ([api_Jump.mk ((List.getD f0 (Int.toNat i5) default).At) (IntKind.i64.wrap (0 - ((List.getD f0 (Int.toNat i5) default).Net)))])) * 16 ≤ 140737488355328 ∧ List.length g4 + List.length ([api_Jump.mk ((List.getD f0 (Int.toNat i5) default).At) (IntKind.i64.wrap (0 - ((List.getD f0 (Int.toNat i5) default).Net)))]) ≤ 9223372036854775807) <|
  some (.inl (g4 ++ ([api_Jump.mk ((List.getD f0 (Int.toNat i5) default).At) (IntKind.i64.wrap (0 - ((List.getD f0 (Int.toNat i5) default).Net)))]), IntKind.i64.wrap (i5 + (1 : Int)))))
  (some (.inr g4))
noncomputable def ref09_Neg_h2 (f0 : (List api_Jump)) (g4 : List api_Jump) (i5 : Int) : Option ((List api_Jump) × Int) :=
  (lp (fun s => ref09_Neg_l2 f0 s.1 s.2) (g4, i5)).bind (fun rr => ref09_Neg_j1 rr)
/-- rescind/rescindref09.Neg -/
noncomputable def s_ref09_Neg (f0 : (List api_Jump)) : Option ((List api_Jump) × Int) :=
  (s_ref09_May f0).bind fun x1 =>
  cond (!x1)
  (some ([], (2 : Int)))
  (ref09_Neg_h2 f0 ([] : List api_Jump) (0 : Int))

/-- rescind/rescindlaw09.StepTwo -/
noncomputable def s_law09_StepTwo (f0 : (List api_Jump)) (g1 : (List api_Jump)) : Option Bool :=
  (s_law09_few f0).bind fun x1 =>
  (gcall (!(!x1)) (s_law09_few g1)).bind fun x4 =>
  cond ((!x1) || (!x4))
  ((s_law09_live ).bind fun x7 =>
  some x7)
  ((s_step_Add f0 g1).bind fun x10 =>
  (s_ref09_Two f0 g1 (0 : Int)).bind fun x13 =>
  (gcall (!(!decide (x10.2 = x13.2))) (s_ref09_Same x10.1 x13.1)).bind fun x16 =>
  cond ((!decide (x10.2 = x13.2)) || (!x16))
  (some false)
  ((s_step_Mul f0 g1).bind fun x19 =>
  (s_ref09_Two f0 g1 (1 : Int)).bind fun x22 =>
  (gcall (!(!decide (x19.2 = x22.2))) (s_ref09_Same x19.1 x22.1)).bind fun x25 =>
  cond ((!decide (x19.2 = x22.2)) || (!x25))
  (some false)
  ((s_step_Where f0 g1).bind fun x28 =>
  (s_ref09_Two f0 g1 (2 : Int)).bind fun x31 =>
  (gcall (!(!decide (x28.2 = x31.2))) (s_ref09_Same x28.1 x31.1)).bind fun x34 =>
  cond ((!decide (x28.2 = x31.2)) || (!x34))
  (some false)
  ((s_step_Neg f0).bind fun x37 =>
  (s_ref09_Neg f0).bind fun x40 =>
  (s_law09_live ).bind fun x43 =>
  (gcall (x43 && (decide (x37.2 = x40.2))) (s_ref09_Same x37.1 x40.1)).bind fun x46 =>
  some ((x43 && (decide (x37.2 = x40.2))) && x46)))))

/-- rescind/rescindref09.At -/
noncomputable def s_ref09_At (f0 : (List api_Jump)) (t1 : Int) : Option Int :=
  (s_ref09_May f0).bind fun x1 =>
  cond (!x1)
  (some (0 : Int))
  ((s_ref09_Value f0 t1).bind fun x4 =>
  some x4)

noncomputable def step_Least_j2 (least4 : Int) : Option Int :=
  some least4
noncomputable def step_Least_l3 (t24 : (List api_Jump)) (t25 : Int) (v3 : Int) (least4 : Int) (t26 : Int) : Option ((Int × Int × Int) ⊕ (Int)) :=
  cond (decide (t26 < t25))
  (asrt (0 ≤ t26 ∧ t26 < ((List.length t24 : Nat) : Int)) <|
  some (.inl (IntKind.i64.wrap (v3 + ((List.getD t24 (Int.toNat t26) default).Net)), if (IntKind.i64.wrap (v3 + ((List.getD t24 (Int.toNat t26) default).Net))) < least4 then (IntKind.i64.wrap (v3 + ((List.getD t24 (Int.toNat t26) default).Net))) else least4, IntKind.i64.wrap (t26 + (1 : Int)))))
  (some (.inr least4))
noncomputable def step_Least_h3 (v3 : Int) (least4 : Int) (t24 : (List api_Jump)) (t25 : Int) (t26 : Int) : Option Int :=
  (lp (fun s => step_Least_l3 t24 t25 s.1 s.2.1 s.2.2) (v3, least4, t26)).bind (fun rr => step_Least_j2 rr)
noncomputable def step_Least_j1 (f0 : (List api_Jump)) (v3 : Int) (least4 : Int) : Option Int :=
  step_Least_h3 v3 least4 f0 ((List.length f0 : Nat) : Int) (0 : Int)
/-- rescind/step.Least -/
noncomputable def s_step_Least (f0 : (List api_Jump)) : Option Int :=
  (s_step_May f0).bind fun x1 =>
  cond ((!x1) || (decide (((List.length f0 : Nat) : Int) = (0 : Int))))
  (some (0 : Int))
  (asrt (0 ≤ (0 : Int) ∧ (0 : Int) < ((List.length f0 : Nat) : Int)) <|
  cond (decide (((List.getD f0 (Int.toNat (0 : Int)) default).At) = (-1 : Int)))
  (asrt (0 ≤ (0 : Int) ∧ (0 : Int) < ((List.length f0 : Nat) : Int)) <|
  step_Least_j1 f0 (0 : Int) ((List.getD f0 (Int.toNat (0 : Int)) default).Net))
  (step_Least_j1 f0 (0 : Int) (0 : Int)))

noncomputable def ref09_Least_j1 (m3 : Int) : Option Int :=
  some m3
noncomputable def ref09_Least_j3 (f0 : (List api_Jump)) (m3 : Int) (i4 : Int) : Option ((Int × Int) ⊕ (Int)) :=
  some (.inl (m3, IntKind.i64.wrap (i4 + (1 : Int))))
noncomputable def ref09_Least_l2 (f0 : (List api_Jump)) (m3 : Int) (i4 : Int) : Option ((Int × Int) ⊕ (Int)) :=
  cond (decide (i4 < ((List.length f0 : Nat) : Int)))
  (asrt (0 ≤ i4 ∧ i4 < ((List.length f0 : Nat) : Int)) <|
  (s_ref09_Value f0 ((List.getD f0 (Int.toNat i4) default).At)).bind fun x8 =>
  cond (decide (x8 < m3))
  (asrt (0 ≤ i4 ∧ i4 < ((List.length f0 : Nat) : Int)) <|
  (s_ref09_Value f0 ((List.getD f0 (Int.toNat i4) default).At)).bind fun x12 =>
  ref09_Least_j3 f0 x12 i4)
  (ref09_Least_j3 f0 m3 i4))
  (some (.inr m3))
noncomputable def ref09_Least_h2 (f0 : (List api_Jump)) (m3 : Int) (i4 : Int) : Option Int :=
  (lp (fun s => ref09_Least_l2 f0 s.1 s.2) (m3, i4)).bind (fun rr => ref09_Least_j1 rr)
/-- rescind/rescindref09.Least -/
noncomputable def s_ref09_Least (f0 : (List api_Jump)) : Option Int :=
  (s_ref09_May f0).bind fun x1 =>
  cond (!x1)
  (some (0 : Int))
  ((s_ref09_Value f0 (-1 : Int)).bind fun x4 =>
  ref09_Least_h2 f0 x4 (0 : Int))

/-- rescind/rescindlaw09.StepValues -/
noncomputable def s_law09_StepValues (f0 : (List api_Jump)) (t1 : Int) : Option Bool :=
  (s_law09_live ).bind fun x1 =>
  (gcall x1 (s_step_At f0 t1)).bind fun x4 =>
  (gcall x1 (s_ref09_At f0 t1)).bind fun x7 =>
  (gcall (x1 && (decide (x4 = x7))) (s_law09_few f0)).bind fun x10 =>
  (gcall ((!(!x10)) && (x1 && (decide (x4 = x7)))) (s_step_Least f0)).bind fun x13 =>
  (gcall ((!(!x10)) && (x1 && (decide (x4 = x7)))) (s_ref09_Least f0)).bind fun x16 =>
  some ((x1 && (decide (x4 = x7))) && ((!x10) || (decide (x13 = x16))))

noncomputable def step_Ahead_j2 (out6 : List api_Jump) : Option ((List api_Jump) × Int) :=
  (s_step_told out6).bind fun x10 =>
  some (x10.1, x10.2)
noncomputable def step_Ahead_j1 (t1 : Int) (out6 : List api_Jump) (v7 : Int) : Option ((List api_Jump) × Int) :=
  cond (!decide (v7 = (0 : Int)))
  (asrt ((List.length out6 + List.length ([api_Jump.mk t1 (IntKind.i64.wrap (0 - v7))])) * 16 ≤ 140737488355328 ∧ List.length out6 + List.length ([api_Jump.mk t1 (IntKind.i64.wrap (0 - v7))]) ≤ 9223372036854775807) <|
  step_Ahead_j2 (out6 ++ ([api_Jump.mk t1 (IntKind.i64.wrap (0 - v7))])))
  (step_Ahead_j2 out6)
noncomputable def step_Ahead_l3 (t1 : Int) (t18 : (List api_Jump)) (t19 : Int) (out6 : List api_Jump) (v7 : Int) (t20 : Int) : Option ((List api_Jump × Int × Int) ⊕ ((List api_Jump × Int))) :=
  cond (decide (t20 < t19))
  (asrt (0 ≤ t20 ∧ t20 < ((List.length t18 : Nat) : Int)) <|
  cond (decide (t1 ≤ ((List.getD t18 (Int.toNat t20) default).At)))
  (some (.inr (out6, v7)))
  (asrt ((List.length out6 + List.length ([List.getD t18 (Int.toNat t20) default])) * 16 ≤ 140737488355328 ∧ List.length out6 + List.length ([List.getD t18 (Int.toNat t20) default]) ≤ 9223372036854775807) <|
  some (.inl (out6 ++ ([List.getD t18 (Int.toNat t20) default]), IntKind.i64.wrap (v7 + ((List.getD t18 (Int.toNat t20) default).Net)), IntKind.i64.wrap (t20 + (1 : Int))))))
  (some (.inr (out6, v7)))
noncomputable def step_Ahead_h3 (t1 : Int) (out6 : List api_Jump) (v7 : Int) (t18 : (List api_Jump)) (t19 : Int) (t20 : Int) : Option ((List api_Jump) × Int) :=
  (lp (fun s => step_Ahead_l3 t1 t18 t19 s.1 s.2.1 s.2.2) (out6, v7, t20)).bind (fun rr => step_Ahead_j1 t1 rr.1 rr.2)
/-- rescind/step.Ahead -/
noncomputable def s_step_Ahead (f0 : (List api_Jump)) (t1 : Int) : Option ((List api_Jump) × Int) :=
  (s_step_May f0).bind fun x1 =>
  cond (!x1)
  (some ([], (2 : Int)))
  (cond (decide ((1125899906842624 : Int) ≤ t1))
  ((s_slices_Clone_api_Jump_api_Jump f0).bind fun x4 =>
  some (x4, (0 : Int)))
  (step_Ahead_h3 t1 ([] : List api_Jump) (0 : Int) f0 ((List.length f0 : Nat) : Int) (0 : Int)))

noncomputable def ref09_Ahead_j2 (places6 : (List Int)) (values7 : List Int) : Option ((List api_Jump) × Int) :=
  (s_ref09_Told places6 values7).bind fun x8 =>
  some (x8.1, x8.2)
noncomputable def ref09_Ahead_j4 (f0 : (List api_Jump)) (t1 : Int) (places6 : (List Int)) (values7 : List Int) (i8 : Int) (v9 : Int) : Option ((List Int × Int) ⊕ ((List Int))) :=
  asrt ((List.length values7 + List.length ([v9])) * 8 ≤ 140737488355328 ∧ List.length values7 + List.length ([v9]) ≤ 9223372036854775807) <|
  some (.inl (values7 ++ ([v9]), IntKind.i64.wrap (i8 + (1 : Int))))
noncomputable def ref09_Ahead_l3 (f0 : (List api_Jump)) (t1 : Int) (places6 : (List Int)) (values7 : List Int) (i8 : Int) : Option ((List Int × Int) ⊕ ((List Int))) :=
  cond (decide (i8 < ((List.length places6 : Nat) : Int)))
  (asrt (0 ≤ i8 ∧ i8 < ((List.length places6 : Nat) : Int)) <|
  cond (decide ((List.getD places6 (Int.toNat i8) default) < t1))
  (asrt (0 ≤ i8 ∧ i8 < ((List.length places6 : Nat) : Int)) <|
  (s_ref09_Value f0 (List.getD places6 (Int.toNat i8) default)).bind fun x18 =>
  ref09_Ahead_j4 f0 t1 places6 values7 i8 x18)
  (ref09_Ahead_j4 f0 t1 places6 values7 i8 (0 : Int)))
  (some (.inr values7))
noncomputable def ref09_Ahead_h3 (f0 : (List api_Jump)) (t1 : Int) (places6 : (List Int)) (values7 : List Int) (i8 : Int) : Option ((List api_Jump) × Int) :=
  (lp (fun s => ref09_Ahead_l3 f0 t1 places6 s.1 s.2) (values7, i8)).bind (fun rr => ref09_Ahead_j2 places6 rr)
noncomputable def ref09_Ahead_j1 (f0 : (List api_Jump)) (t1 : Int) (places6 : (List Int)) : Option ((List api_Jump) × Int) :=
  ref09_Ahead_h3 f0 t1 places6 ([] : List Int) (0 : Int)
/-- rescind/rescindref09.Ahead -/
noncomputable def s_ref09_Ahead (f0 : (List api_Jump)) (t1 : Int) : Option ((List api_Jump) × Int) :=
  (s_ref09_May f0).bind fun x1 =>
  cond (!x1)
  (some ([], (2 : Int)))
  ((s_ref09_Places f0 ([])).bind fun x4 =>
  cond ((decide ((-1 : Int) ≤ t1)) && (decide (t1 < (1125899906842624 : Int))))
  ((s_ref09_With x4 t1).bind fun x25 =>
  ref09_Ahead_j1 f0 t1 x25)
  (ref09_Ahead_j1 f0 t1 x4))

noncomputable def step_Rest_j2 (f0 : (List api_Jump)) (at7 : Int) (out8 : List api_Jump) : Option ((List api_Jump) × Int) :=
  asrt (0 ≤ at7 ∧ at7 ≤ ((List.length f0 : Nat) : Int)) <|
  asrt ((List.length out8 + List.length (List.drop (Int.toNat at7) f0)) * 16 ≤ 140737488355328 ∧ List.length out8 + List.length (List.drop (Int.toNat at7) f0) ≤ 9223372036854775807) <|
  (s_step_told (out8 ++ (List.drop (Int.toNat at7) f0))).bind fun x15 =>
  some (x15.1, x15.2)
noncomputable def step_Rest_j1 (f0 : (List api_Jump)) (v6 : Int) (at7 : Int) : Option ((List api_Jump) × Int) :=
  cond (!decide (v6 = (0 : Int)))
  (asrt (List.length ([api_Jump.mk (-1 : Int) v6]) * 16 ≤ 140737488355328 ∧ List.length ([api_Jump.mk (-1 : Int) v6]) ≤ 9223372036854775807) <|
  step_Rest_j2 f0 at7 ([api_Jump.mk (-1 : Int) v6]))
  (step_Rest_j2 f0 at7 ([] : List api_Jump))
noncomputable def step_Rest_l3 (f0 : (List api_Jump)) (t1 : Int) (v6 : Int) (at7 : Int) : Option ((Int × Int) ⊕ ((Int × Int))) :=
  asrt ((((decide (at7 < ((List.length f0 : Nat) : Int)))) = true → 0 ≤ at7 ∧ at7 < ((List.length f0 : Nat) : Int))) <|
  cond ((decide (at7 < ((List.length f0 : Nat) : Int))) && (decide (((List.getD f0 (Int.toNat at7) default).At) < t1)))
  (asrt (0 ≤ at7 ∧ at7 < ((List.length f0 : Nat) : Int)) <|
  some (.inl (IntKind.i64.wrap (v6 + ((List.getD f0 (Int.toNat at7) default).Net)), IntKind.i64.wrap (at7 + (1 : Int)))))
  (some (.inr (v6, at7)))
noncomputable def step_Rest_h3 (f0 : (List api_Jump)) (t1 : Int) (v6 : Int) (at7 : Int) : Option ((List api_Jump) × Int) :=
  (lp (fun s => step_Rest_l3 f0 t1 s.1 s.2) (v6, at7)).bind (fun rr => step_Rest_j1 f0 rr.1 rr.2)
/-- rescind/step.Rest -/
noncomputable def s_step_Rest (f0 : (List api_Jump)) (t1 : Int) : Option ((List api_Jump) × Int) :=
  (s_step_May f0).bind fun x1 =>
  cond (!x1)
  (some ([], (2 : Int)))
  (cond (decide ((1125899906842624 : Int) ≤ t1))
  (some ([], (0 : Int)))
  (cond (decide (t1 ≤ (-1 : Int)))
  ((s_slices_Clone_api_Jump_api_Jump f0).bind fun x4 =>
  some (x4, (0 : Int)))
  (step_Rest_h3 f0 t1 (0 : Int) (0 : Int))))

noncomputable def ref09_Rest_j1 (places6 : (List Int)) (values7 : List Int) : Option ((List api_Jump) × Int) :=
  (s_ref09_Told places6 values7).bind fun x11 =>
  some (x11.1, x11.2)
noncomputable def ref09_Rest_j3 (f0 : (List api_Jump)) (t1 : Int) (places6 : (List Int)) (values7 : List Int) (i8 : Int) (p9 : Int) : Option ((List Int × Int) ⊕ ((List Int))) :=
  (s_ref09_Value f0 p9).bind fun x18 =>
  asrt ((List.length values7 + List.length ([x18])) * 8 ≤ 140737488355328 ∧ List.length values7 + List.length ([x18]) ≤ 9223372036854775807) <|
  some (.inl (values7 ++ ([x18]), IntKind.i64.wrap (i8 + (1 : Int))))
noncomputable def ref09_Rest_l2 (f0 : (List api_Jump)) (t1 : Int) (places6 : (List Int)) (values7 : List Int) (i8 : Int) : Option ((List Int × Int) ⊕ ((List Int))) :=
  cond (decide (i8 < ((List.length places6 : Nat) : Int)))
  (asrt (0 ≤ i8 ∧ i8 < ((List.length places6 : Nat) : Int)) <|
  cond ((decide ((-1 : Int) < t1)) && (decide ((List.getD places6 (Int.toNat i8) default) < t1)))
  (ref09_Rest_j3 f0 t1 places6 values7 i8 (IntKind.i64.wrap (t1 - (1 : Int))))
  (ref09_Rest_j3 f0 t1 places6 values7 i8 (List.getD places6 (Int.toNat i8) default)))
  (some (.inr values7))
noncomputable def ref09_Rest_h2 (f0 : (List api_Jump)) (t1 : Int) (places6 : (List Int)) (values7 : List Int) (i8 : Int) : Option ((List api_Jump) × Int) :=
  (lp (fun s => ref09_Rest_l2 f0 t1 places6 s.1 s.2) (values7, i8)).bind (fun rr => ref09_Rest_j1 places6 rr)
/-- rescind/rescindref09.Rest -/
noncomputable def s_ref09_Rest (f0 : (List api_Jump)) (t1 : Int) : Option ((List api_Jump) × Int) :=
  (s_ref09_May f0).bind fun x1 =>
  cond (!x1)
  (some ([], (2 : Int)))
  (cond (decide ((1125899906842624 : Int) ≤ t1))
  (some ([], (0 : Int)))
  ((s_ref09_Places f0 ([])).bind fun x4 =>
  (s_ref09_With x4 (-1 : Int)).bind fun x7 =>
  ref09_Rest_h2 f0 t1 x7 ([] : List Int) (0 : Int)))

/-- rescind/rescindlaw09.StepCuts -/
noncomputable def s_law09_StepCuts (f0 : (List api_Jump)) (t1 : Int) : Option Bool :=
  (s_law09_few f0).bind fun x1 =>
  cond (!x1)
  ((s_law09_live ).bind fun x4 =>
  some x4)
  ((s_step_Ahead f0 t1).bind fun x7 =>
  (s_ref09_Ahead f0 t1).bind fun x10 =>
  (s_step_Rest f0 t1).bind fun x13 =>
  (s_ref09_Rest f0 t1).bind fun x16 =>
  (s_law09_live ).bind fun x19 =>
  (gcall (x19 && (decide (x7.2 = x10.2))) (s_ref09_Same x7.1 x10.1)).bind fun x22 =>
  (gcall (((x19 && (decide (x7.2 = x10.2))) && x22) && (decide (x13.2 = x16.2))) (s_ref09_Same x13.1 x16.1)).bind fun x25 =>
  some ((((x19 && (decide (x7.2 = x10.2))) && x22) && (decide (x13.2 = x16.2))) && x25))

noncomputable def law09_StepSides_j1  : Option Bool :=
  (s_law09_live ).bind fun x16 =>
  some x16
/-- rescind/rescindlaw09.StepSides -/
noncomputable def s_law09_StepSides (f0 : (List api_Jump)) (t1 : Int) (p2 : Int) : Option Bool :=
  (s_step_Ahead f0 t1).bind fun x1 =>
  (s_step_Rest f0 t1).bind fun x4 =>
  (gcall ((decide (x1.2 = (0 : Int))) && (decide (p2 < t1))) (s_step_At x1.1 p2)).bind fun x7 =>
  (gcall ((decide (x1.2 = (0 : Int))) && (decide (p2 < t1))) (s_step_At f0 p2)).bind fun x10 =>
  (gcall (((((decide (x1.2 = (0 : Int))) && (decide (t1 ≤ p2))) && (decide ((0 : Int) ≤ t1))) && (decide (t1 < (1125899906842624 : Int)))) && (!(((decide (x1.2 = (0 : Int))) && (decide (p2 < t1))) && (!decide (x7 = x10))))) (s_step_At x1.1 p2)).bind fun x13 =>
  cond ((((decide (x1.2 = (0 : Int))) && (decide (p2 < t1))) && (!decide (x7 = x10))) || (((((decide (x1.2 = (0 : Int))) && (decide (t1 ≤ p2))) && (decide ((0 : Int) ≤ t1))) && (decide (t1 < (1125899906842624 : Int)))) && (!decide (x13 = (0 : Int)))))
  (some false)
  (cond (((decide (x4.2 = (0 : Int))) && (decide ((0 : Int) ≤ t1))) && (decide (t1 < (1125899906842624 : Int))))
  ((gcall (decide (t1 ≤ p2)) (s_step_At x4.1 p2)).bind fun x19 =>
  (gcall (decide (t1 ≤ p2)) (s_step_At f0 p2)).bind fun x22 =>
  (gcall (((decide (p2 < t1)) && (decide ((-1 : Int) ≤ p2))) && (!((decide (t1 ≤ p2)) && (!decide (x19 = x22))))) (s_step_At x4.1 p2)).bind fun x25 =>
  (gcall (((decide (p2 < t1)) && (decide ((-1 : Int) ≤ p2))) && (!((decide (t1 ≤ p2)) && (!decide (x19 = x22))))) (s_step_At f0 (IntKind.i64.wrap (t1 - (1 : Int))))).bind fun x28 =>
  cond (((decide (t1 ≤ p2)) && (!decide (x19 = x22))) || (((decide (p2 < t1)) && (decide ((-1 : Int) ≤ p2))) && (!decide (x25 = x28))))
  (some false)
  (law09_StepSides_j1 ))
  (law09_StepSides_j1 ))

end Go.Abs
