/- What makes and writes memory: the operations themselves. -/
import Derived.Test.YtgeajlnkbfeidaaAbs10
namespace Go.Abs
open Go Go.RowKit

variable {P : Program} {tt : TT} {g : Gh} {w : World} {H : Heap}

def ER (P : Program) (s : Sem Value) (g : Gh) (w : World) (K : V → Heap → Prop) : Prop :=
  ∃ v w' g' x H', s.run P w = .ok v w' ∧ Rep g' w' x v ∧ SR g' w' H' ∧ Ext g w g' w' ∧ K x H'

theorem foldl_put (off : Nat) : ∀ (ys : List Value) (k : Nat) (cs : Array Value),
    ((ys.zipIdx k).foldl (fun cs (c, j) => cs.setIfInBounds (off + j) c) cs).size = cs.size ∧
    (∀ p, (p < off + k ∨ off + k + ys.length ≤ p) → ((ys.zipIdx k).foldl (fun cs (c, j) => cs.setIfInBounds (off + j) c) cs)[p]? = cs[p]?) ∧
    (∀ (j : Nat) y, ys[j]? = some y → off + k + j < cs.size → ((ys.zipIdx k).foldl (fun cs (c, j) => cs.setIfInBounds (off + j) c) cs)[off + k + j]? = some y)
  | [], k, cs => by simp
  | y :: ys, k, cs => by
    simp only [List.zipIdx_cons, List.foldl_cons, List.length_cons]
    obtain ⟨h1, h2, h3⟩ := foldl_put off ys (k + 1) (cs.setIfInBounds (off + k) y)
    refine ⟨by rw [h1]; simp, fun p hp => ?_, fun j z hz hj => ?_⟩
    · rw [h2 p (by omega), Array.getElem?_setIfInBounds_ne (by omega)]
    · cases j with
      | zero =>
        simp at hz; subst hz
        rw [h2 _ (by omega), Nat.add_zero, Array.getElem?_setIfInBounds]
        simp; omega
      | succ j =>
        simp at hz
        have := h3 j z hz (by simp; omega)
        rwa [show off + (k + 1) + j = off + k + (j + 1) by omega] at this

theorem fill_slice (size : Nat) : ∀ (qs : List (Nat × Value)) (s : Nat) (cells : Array Value), (∀ (i : Nat) q, qs[i]? = some q → q.1 = s + i ∧ q.2.cells.size = size) → (s + qs.length) * size ≤ cells.size →
    ∃ rs, Instr.fill (fun i => some (i * size, size)) cells qs = some rs ∧ rs.size = cells.size ∧ (∀ k, k < s * size → rs[k]? = cells[k]?) ∧
      (∀ (i : Nat) q (j : Nat) x, qs[i]? = some q → q.2.cells[j]? = some x → rs[(s + i) * size + j]? = some x)
  | [], s, cells, _, _ => ⟨cells, rfl, rfl, fun _ _ => rfl, by simp⟩
  | (i0, v) :: qs, s, cells, hq, hl => by
    obtain ⟨he, hs⟩ := hq 0 _ rfl
    simp only [Nat.add_zero] at he hs
    subst he
    simp only [List.length_cons] at hl
    have hle : i0 * size + size ≤ cells.size := by
      have : (i0 + 1) * size ≤ (i0 + (qs.length + 1)) * size := Nat.mul_le_mul_right _ (by omega)
      rw [Nat.add_mul, Nat.one_mul] at this
      omega
    have hcond : ¬ ((v.cells.size ≠ size || decide (i0 * size + v.cells.size > cells.size)) = true) := by
      simp [hs]; omega
    obtain ⟨p1, p2, p3⟩ := foldl_put (i0 * size) v.cells.toList 0 cells
    simp only [Nat.add_zero, Array.length_toList, hs] at p1 p2 p3
    obtain ⟨rs, h1, h2, h3, h4⟩ := fill_slice size qs (i0 + 1) (v.cells.zipIdx.foldl (fun cs (c, j) => cs.setIfInBounds (i0 * size + j) c) cells) (fun i q hi => by
      have := hq (i + 1) q (by simpa using hi)
      exact ⟨by omega, this.2⟩) (by
        rw [← Array.foldl_toList, Array.toList_zipIdx, p1]
        rwa [show i0 + 1 + qs.length = i0 + (qs.length + 1) by omega])
    rw [← Array.foldl_toList, Array.toList_zipIdx] at h1 h2 h3
    refine ⟨rs, ?_, by rw [h2, p1], fun k hk => ?_, fun i q j x hi hj => ?_⟩
    · simp only [Instr.fill, if_neg hcond]
      rw [← Array.foldl_toList, Array.toList_zipIdx]
      exact h1
    · have : (i0 + 1) * size = i0 * size + size := by rw [Nat.add_mul, Nat.one_mul]
      rw [h3 k (by omega), p2 k (by omega)]
    · cases i with
      | zero =>
        simp at hi; subst hi
        have hj' : j < size := by rw [← hs]; exact (Array.getElem?_eq_some_iff.1 hj).1
        have : (i0 + 1) * size = i0 * size + size := by rw [Nat.add_mul, Nat.one_mul]
        rw [Nat.add_zero, h3 _ (by omega)]
        exact p3 j x (by simpa using hj) (by omega)
      | succ i =>
        simp at hi
        have := h4 i q j x hi hj
        rwa [show i0 + 1 + i = i0 + (i + 1) by omega] at this

/-- The elements of a slice literal: all of them, in order. -/
def inOrder (s : Nat) : List (Nat × V) → Bool
  | [] => true
  | p :: r => Nat.beq p.1 s && inOrder (s + 1) r

theorem inOrder_get : ∀ {l : List (Nat × V)} {s : Nat}, inOrder s l = true → ∀ (i : Nat) p, l[i]? = some p → p.1 = s + i
  | [], s, _, i, p, h => by simp at h
  | q :: r, s, h, i, p, hp => by
    simp only [inOrder, Bool.and_eq_true] at h
    cases i with
    | zero => simp at hp; subst hp; simpa using Nat.eq_of_beq_eq_true h.1
    | succ i => simp at hp; have := inOrder_get h.2 i p hp; omega

def allSz (n : Nat) : List V → Bool
  | [] => true
  | x :: r => szOk x n && allSz n r

theorem allSz_get {n : Nat} : ∀ {l : List V}, allSz n l = true → ∀ (i : Nat) p, l[i]? = some p → szOk p n = true
  | [], _, i, p, h => by simp at h
  | q :: r, h, i, p, hp => by
    simp only [allSz, Bool.and_eq_true] at h
    cases i with
    | zero => simp at hp; subst hp; exact h.1
    | succ i => simp at hp; exact allSz_get h.2 i p hp

/-- What 'buildSlice' makes: its elements. -/
def bslOp (tt : TT) (T : Env) (ctx : Ctx) (op : Op) : Option (List V) :=
  match op with
  | .buildSlice t n parts => match evalP T ctx parts.toList, tt t with
    | some ps, some ⟨.slice e, _, _, _⟩ => match tt e with
      | some te => match inOrder 0 ps && Nat.beq ps.length n && allSz te.size (ps.map (·.2)) && Nat.ble (n * te.size) 16777216 && Nat.beq te.zero.cells.length te.size && noTup te.zero with
        | true => some (ps.map (·.2))
        | false => none
      | none => none
    | _, _ => none
  | _ => none

theorem run_buildSlice (htt : TTok P tt) {T : Env} {a : Act} {ctx : Ctx} (htr : TR g w T a.tmps) (hc : ctxOk a.tmps ctx) {t : TypeId} {n : Nat} {parts : Array (Nat × Operand)} {xs : List V}
    (h : bslOp tt T ctx (.buildSlice t n parts) = some xs) :
    ∃ (e : TypeId) (te : TyE) (cs : Array Value) (c : Nat → Value), n = xs.length ∧ (∃ q1 q2 q3, tt t = some ⟨.slice e, q1, q2, q3⟩) ∧ (∀ x ∈ xs, noTup x = true) ∧ tt e = some te ∧ cs.size = te.size * n ∧ (Instr.buildSlice t n (parts.map fun (i, x) => (i, a.eval x))).run P w = .ok (.slice (some ⟨w.heap.size, 0, none⟩) n n) (w.alloc (.cells cs e)) ∧
      ∀ (i : Nat) x, xs[i]? = some x → Rep g w x (c i) ∧ (c i).cells.size = te.size ∧ ∀ (j : Nat) y, (c i).cells[j]? = some y → cs[i * te.size + j]? = some y := by
  simp only [bslOp] at h
  split at h
  · rename_i ps e _ _ _ hps ht
    split at h
    · rename_i te hte
      split at h
      · rename_i hb
        simp only [Bool.and_eq_true] at hb
        obtain ⟨⟨⟨⟨⟨b1, b2⟩, b3⟩, b4⟩, b5⟩, b6⟩ := hb
        simp at h; subst h
        have b2 : ps.length = n := Nat.eq_of_beq_eq_true b2
        have b4 : n * te.size ≤ 16777216 := Nat.le_of_ble_eq_true b4
        have b5 : te.zero.cells.length = te.size := Nat.eq_of_beq_eq_true b5
        obtain ⟨hl, hg⟩ := evalP_sound htr hc hps
        have hu := (htt.facts ht).under
        have hsz := run_sizeOf' (P := P) (htt.facts hte)
        obtain ⟨⟨i, hi, _, _, zv, hz, hzv⟩, _⟩ := htt.facts hte
        have hzr : Rep g w te.zero zv := ofConst_rep hzv
        have hzs : zv.cells.size = te.size := by rw [← (hzr.cellsL b6).1, b5]
        have hqs : ∀ (i : Nat) q, ((parts.map fun (i, x) => (i, a.eval x)).toList)[i]? = some q → q.1 = 0 + i ∧ q.2.cells.size = te.size ∧ ∃ p, ps[i]? = some p ∧ Rep g w p.2 q.2 := by
          intro i q hq
          simp only [Array.toList_map, List.getElem?_map, Option.map_eq_some_iff] at hq
          obtain ⟨r, hr1, rfl⟩ := hq
          have hlt : i < ps.length := by rw [hl]; exact (List.getElem?_eq_some_iff.1 hr1).1
          have hp : ps[i]? = some ps[i] := List.getElem?_eq_getElem hlt
          obtain ⟨h1, h2⟩ := hg i _ r hp hr1
          have hso := szOk_spec (allSz_get b3 i ps[i].2 (by simp [hp]))
          exact ⟨by rw [← inOrder_get b1 i _ hp, h1], by rw [← (h2.cellsL hso.1).1, hso.2], _, hp, h2⟩
        obtain ⟨rs, f1, f2, f3, f4⟩ := fill_slice te.size (parts.map fun (i, x) => (i, a.eval x)).toList 0 ((Array.range (n * te.size)).map (zv.cells[· % zv.cells.size]!))
          (fun i q hq => ⟨(hqs i q hq).1, (hqs i q hq).2.1⟩) (by simp at hl ⊢; rw [← hl, b2]; exact Nat.le_refl _)
        have hzero : (zeroValue e).run P w = .ok zv w := by simp [zeroValue, typeInfo, hi, hz]
        refine ⟨e, te, rs, fun i => (((parts.map fun (i, x) => (i, a.eval x)).toList)[i]?.getD (0, undef)).2, by simp [b2], ⟨_, _, _, ht⟩, fun x hx => by
          obtain ⟨i, hi, e⟩ := List.getElem_of_mem hx
          exact (szOk_spec (allSz_get b3 i x (by rw [List.getElem?_eq_getElem hi, e]))).1, hte, by rw [f2]; simp [Nat.mul_comm], ?_, ?_⟩
        · have hlim : ¬ (n * te.size > 2 ^ 24) := by omega
          simp only [Instr.buildSlice, Sem.run_bind, run_underlying hu, Result.andThen, hsz, if_neg hlim, Sem.run_pure]
          by_cases h0 : n * te.size = 0
          · simp only [if_pos h0, Sem.run_bind, Sem.run_pure, Result.andThen]
            have hrange : (Array.map (fun x => (#[] : Array Value)[x % (#[] : Array Value).size]!) (Array.range (n * te.size))) = Array.map (fun x => zv.cells[x % zv.cells.size]!) (Array.range (n * te.size)) := by
              rw [h0]; simp
            rw [hrange, f1]
            rfl
          · simp only [if_neg h0, Sem.run_bind, hzero, Result.andThen, Sem.run_pure]
            rw [f1]
            rfl
        · intro i x hx
          simp only [List.getElem?_map, Option.map_eq_some_iff] at hx
          obtain ⟨p, hp, rfl⟩ := hx
          have hlt : i < ((parts.map fun (i, x) => (i, a.eval x)).toList).length := by
            have := (List.getElem?_eq_some_iff.1 hp).1
            simp at hl ⊢; omega
          have hq := List.getElem?_eq_getElem hlt
          obtain ⟨q1, q2, p', hp', q3⟩ := hqs i _ hq
          rw [hp] at hp'; cases hp'
          simp only [hq, Option.getD_some]
          refine ⟨q3, q2, fun j y hy => ?_⟩
          have := f4 i _ j y hq hy
          simpa using this
      · simp at h
    · simp at h
  · simp at h

/-- What may be appended to: its elements. -/
def appS (k : Nat) (H : Heap) : V → Option (List V)
  | .sl true _ _ => some []
  | .msl k0 l 0 n => match H[l]? with
    | some (.vec k' es) => match Nat.beq es.length n && Nat.beq k' k && Nat.beq k0 k with
      | true => some es
      | false => none
    | _ => none
  | _ => none

/-- What is appended. -/
def appX (k : Nat) (H : Heap) : V → Option (List V)
  | .sl _ n el => match szOk (el 0) k with
    | true => some ((List.range n).map el)
    | false => none
  | .msl k0 l i n => match H[l]? with
    | some (.vec k' es) => match Nat.ble (i + n) es.length && Nat.beq k' k && Nat.beq k0 k with
      | true => some ((es.drop i).take n)
      | false => none
    | _ => none
  | _ => none

/-- The heap behind an append. -/
def appH (k : Nat) (H : Heap) (s : V) (es : List V) : Heap :=
  (match s with
   | .msl _ l _ _ => H.set l .dead
   | _ => H) ++ [.vec k es]

end Go.Abs
