/- The operations that only compute: the machine makes the same. -/
import Derived.Test.YtgeajlnkbfeidaaAbs3
namespace Go.Abs
open Go Go.RowKit

variable {P : Program} {tt : TT} {g : Gh} {w : World}

theorem run_sizeOf' {t : TypeId} {e : TyE} (f : TyFacts P t e) (w : World) : (sizeOf t).run P w = .ok e.size w := by
  obtain ⟨⟨i, hi, hs, _⟩, _⟩ := f
  simp [sizeOf, typeInfo, hi, hs]

theorem run_isAgg' {t : TypeId} {e : TyE} (f : TyFacts P t e) (w : World) : (isAgg t).run P w = .ok (isAggD e.d) w := by
  simp only [isAgg, Sem.run_bind, run_underlying f.under, Result.andThen]
  cases e.d <;> rfl

theorem szOk_spec {x : V} {n : Nat} (h : szOk x n = true) : noTup x = true ∧ x.cells.length = n := by
  unfold szOk at h
  split at h
  · rename_i hn; exact ⟨hn, Nat.eq_of_beq_eq_true h⟩
  · cases h

/-- The cells of an abstract struct, and of the machine's. -/
def RepL (g : Gh) (w : World) (cs : List V) (vs : Array Value) : Prop :=
  cs.length = vs.size ∧ (∀ (i : Nat) x y, cs[i]? = some x → vs[i]? = some y → Rep g w x y) ∧ (∀ (i : Nat) y, vs[i]? = some y → one y = true)

theorem Rep.aggL {cs : List V} {v : Value} (h : Rep g w (.agg cs) v) : ∃ vs, v = .agg vs ∧ RepL g w cs vs := by
  cases h with
  | agg cs vs h1 h2 h3 => exact ⟨vs, rfl, h1, h2, h3⟩

theorem RepL.rep {cs : List V} {vs : Array Value} (h : RepL g w cs vs) : Rep g w (.agg cs) (.agg vs) := .agg _ _ h.1 h.2.1 h.2.2

theorem Rep.cellsL {x : V} {v : Value} (h : Rep g w x v) (hn : noTup x = true) : RepL g w x.cells v.cells := by
  have single : ∀ {x : V} {v : Value}, Rep g w x v → x.cells = [x] → one v = true → RepL g w x.cells v.cells := by
    intro x v h hx ho
    rw [hx, cells_of_one ho]
    refine ⟨rfl, fun i a b ha hb => ?_, fun i b hb => ?_⟩
    · cases i with
      | zero => simp at ha hb; subst ha; subst hb; exact h
      | succ i => simp at ha
    · cases i with
      | zero => simp at hb; subst hb; exact ho
      | succ i => simp at hb
  have h' := h
  cases h with
  | agg cs vs h1 h2 h3 => exact ⟨h1, h2, h3⟩
  | tup => simp [noTup] at hn
  | lit v hp => exact single h' rfl (one_of_plain hp)
  | _ => exact single h' rfl rfl

theorem partV_sound (htt : TTok P tt) {t : TypeId} {cs : List V} {off : Nat} {u : V} {vs : Array Value} (h : partV tt t cs off = some u) (hr : RepL g w cs vs) :
    ∃ v, (∀ w', (part t vs off).run P w' = .ok v w') ∧ Rep g w u v ∧ (∀ (j : Nat) x, v.cells[j]? = some x → vs[off + j]? = some x) ∧
      ∃ e, tt t = some e ∧ ((isAggD e.d = true ∧ ∃ us, v = .agg us ∧ us.size = e.size) ∨ (isAggD e.d = false ∧ one v = true)) := by
  unfold partV at h
  split at h
  · rename_i e he
    have f := htt.facts he
    split at h
    · rename_i ha
      split at h
      · rename_i hb
        simp at h; subst h
        have hb : off + e.size ≤ cs.length := Nat.le_of_ble_eq_true hb
        refine ⟨.agg (vs.extract off (off + e.size)), fun w' => ?_, ?_, ?_, e, he, .inl ⟨ha, _, rfl, by have := hr.1; simp; omega⟩⟩
        · simp only [part, Sem.run_bind, run_isAgg' f, ha, Result.andThen, if_true, run_sizeOf' f]; rfl
        · refine RepL.rep ⟨?_, fun i x y hx hy => ?_, fun i y hy => ?_⟩
          · have := hr.1; simp; omega
          · have h1 : cs[off + i]? = some x := by
              have h2 := hx
              rw [List.getElem?_take] at h2
              split at h2
              · rwa [List.getElem?_drop] at h2
              · cases h2
            have h3 : vs[off + i]? = some y := by
              rw [Array.getElem?_extract] at hy
              split at hy
              · exact hy
              · cases hy
            exact hr.2.1 _ _ _ h1 h3
          · rw [Array.getElem?_extract] at hy
            split at hy
            · exact hr.2.2 _ _ hy
            · cases hy
        · intro j x hx
          simp only [Value.cells] at hx
          rw [Array.getElem?_extract] at hx
          split at hx
          · exact hx
          · cases hx
      · simp at h
    · rename_i ha
      have hlt : off < cs.length := (List.getElem?_eq_some_iff.1 h).1
      have hlt' : off < vs.size := by rw [← hr.1]; exact hlt
      have hv : vs[off]? = some vs[off] := Array.getElem?_eq_getElem hlt'
      refine ⟨vs[off], fun w' => ?_, hr.2.1 _ _ _ h hv, fun j x hx => ?_, e, he, .inr ⟨ha, hr.2.2 _ _ hv⟩⟩
      · simp only [part, Sem.run_bind, run_isAgg' f, ha, Result.andThen]; simp only [Bool.false_eq_true, if_false]; rw [hv]; rfl
      · rw [cells_of_one (hr.2.2 _ _ hv)] at hx
        cases j with
        | zero => simp at hx; subst hx; exact hv
        | succ j => simp at hx
  · simp at h

theorem run_loadVar_of (htt : TTok P tt) {t : TypeId} {e : TyE} (he : tt t = some e) {b o : Nat} {c : Value} (hh : Holds w b o c)
    (hc : (isAggD e.d = true ∧ ∃ vs, c = .agg vs ∧ vs.size = e.size) ∨ (isAggD e.d = false ∧ one c = true)) : (loadVar t ⟨b, o, none⟩).run P w = .ok c w := by
  have f := htt.facts he
  have hadd : ∀ j, (⟨b, o, none⟩ : Addr).add j = ⟨b, o + j, none⟩ := fun j => by
    unfold Addr.add
    split
    · rename_i h0; subst h0; rfl
    · rfl
  rcases hc with ⟨ha, vs, rfl, hs⟩ | ⟨ha, ho⟩
  · have h1 := run_loadCells_list (P := P) w ⟨b, o, none⟩ vs.toList (fun j v hj => by rw [hadd]; exact hh j v (by simpa [Value.cells] using hj))
    simp only [loadVar, Sem.run_bind, run_isAgg' f, ha, Result.andThen, if_true, run_sizeOf' f, ← hs]
    rw [← Array.length_toList, h1]
    rfl
  · have h0 := hh 0 c (by rw [cells_of_one ho]; rfl)
    simp only [loadVar, Sem.run_bind, run_isAgg' f, ha, Result.andThen]
    simp only [Nat.add_zero] at h0
    simp [h0]

theorem Rep.one_of {x : V} {v : Value} (h : Rep g w x v) (ha : ∀ cs, x ≠ .agg cs) (ht : ∀ cs, x ≠ .tup cs) : one v = true := by
  cases h with
  | agg cs => exact absurd rfl (ha cs)
  | tup cs => exact absurd rfl (ht cs)
  | lit v hp => exact one_of_plain hp
  | _ => rfl

theorem fillV_sound {fs : Array Field} {places : Array (Nat × Nat)} (hpl : ∀ (i : Nat) fd e, fs[i]? = some fd → tt fd.type = some e → places[i]? = some (fd.offset, e.size)) :
    ∀ {ps : List (Nat × V)} {qs : List (Nat × Value)} {cs : List V} {vs : Array Value} {us : List V}, fillV tt fs cs ps = some us → RepL g w cs vs →
      ps.length = qs.length → (∀ (i : Nat) p q, ps[i]? = some p → qs[i]? = some q → p.1 = q.1 ∧ Rep g w p.2 q.2 ∧ noTup p.2 = true) →
      ∃ rs, Instr.fill (places[·]?) vs qs = some rs ∧ RepL g w us rs := by
  have put : ∀ (xs : List V) (ys : List Value) (cs : List V) (vs : Array Value) (off k : Nat), RepL g w cs vs → xs.length = ys.length →
      (∀ (i : Nat) x y, xs[i]? = some x → ys[i]? = some y → Rep g w x y) → (∀ y ∈ ys, one y = true) →
      RepL g w (putAt cs (off + k) xs) ((ys.zipIdx k).foldl (fun cs (c, j) => cs.setIfInBounds (off + j) c) vs) := by
    intro xs
    induction xs with
    | nil => intro ys cs vs off k hr hl _ _; cases ys <;> simp at hl; simpa [putAt] using hr
    | cons x xs ih =>
      intro ys cs vs off k hr hl hrep hone
      cases ys with
      | nil => simp at hl
      | cons y ys =>
        simp only [putAt, List.zipIdx_cons, List.foldl_cons]
        rw [Nat.add_assoc]
        refine ih ys _ _ off (k + 1) ?_ (by simpa using hl) (fun i a b ha hb => hrep (i + 1) a b (by simpa using ha) (by simpa using hb)) (fun z hz => hone z (List.mem_cons_of_mem _ hz))
        refine ⟨by simp [hr.1], fun i a b ha hb => ?_, fun i b hb => ?_⟩
        · rw [List.getElem?_set] at ha
          rw [Array.getElem?_setIfInBounds] at hb
          split at ha
          · rename_i hi
            split at ha
            · simp at ha; subst ha
              rw [if_pos hi] at hb
              split at hb
              · simp at hb; subst hb; exact hrep 0 x y rfl rfl
              · cases hb
            · cases ha
          · rename_i hi
            rw [if_neg hi] at hb
            exact hr.2.1 i a b ha hb
        · rw [Array.getElem?_setIfInBounds] at hb
          split at hb
          · split at hb
            · simp at hb; subst hb; exact hone y (List.mem_cons_self ..)
            · cases hb
          · exact hr.2.2 i b hb
  intro ps
  induction ps with
  | nil =>
    intro qs cs vs us h hr hl _
    cases qs <;> simp at hl
    simp [fillV] at h; subst h
    exact ⟨vs, rfl, hr⟩
  | cons p ps ih =>
    intro qs cs vs us h hr hl hpq
    cases qs with
    | nil => simp at hl
    | cons q qs =>
      obtain ⟨i, x⟩ := p
      obtain ⟨i', y⟩ := q
      obtain ⟨rfl, hxy, hnt⟩ := hpq 0 _ _ rfl rfl
      simp only [] at hxy hnt
      have hcl := hxy.cellsL hnt
      simp only [fillV] at h
      split at h
      · simp at h
      · rename_i fd hfd
        split at h
        · simp at h
        · rename_i e he
          split at h
          · rename_i hb1 hb2
            have hb1 : x.cells.length = e.size := Nat.eq_of_beq_eq_true hb1
            have hb2 : fd.offset + x.cells.length ≤ cs.length := Nat.le_of_ble_eq_true hb2
            have hp := hpl i fd e hfd he
            simp only [Instr.fill, hp]
            have hs1 : y.cells.size = e.size := by rw [← hcl.1]; exact hb1
            have hs2 : ¬ (y.cells.size ≠ e.size || decide (fd.offset + y.cells.size > vs.size)) = true := by
              have := hr.1; have := hcl.1
              simp [hs1]; omega
            simp only [if_neg hs2]
            refine ih h ?_ (by simpa using hl) (fun j a b ha hb => hpq (j + 1) a b (by simpa using ha) (by simpa using hb))
            have := put x.cells y.cells.toList cs vs fd.offset 0 hr (by simpa using hcl.1) (fun j a b ha hb => hcl.2.1 j a b ha (by simpa using hb))
              (fun z hz => by obtain ⟨j, hj, e⟩ := List.getElem_of_mem hz; exact hcl.2.2 j z (by simp at hj; simp [← e, hj]))
            simp only [Nat.add_zero] at this
            rw [← Array.foldl_toList, Array.toList_zipIdx]
            exact this
          · simp at h


theorem evalP_sound {T : Env} {a : Act} {ctx : Ctx} (htr : TR g w T a.tmps) (hc : ctxOk a.tmps ctx) : ∀ {ps : List (Nat × Operand)} {xs : List (Nat × V)}, evalP T ctx ps = some xs →
    xs.length = ps.length ∧ ∀ (i : Nat) x p, xs[i]? = some x → ps[i]? = some p → x.1 = p.1 ∧ Rep g w x.2 (a.eval p.2)
  | [], xs, h => by simp [evalP] at h; subst h; simp
  | (i, o) :: r, xs, h => by
    simp only [evalP] at h
    split at h
    · rename_i y ys h1 h2
      simp at h; subst h
      obtain ⟨hl, hg⟩ := evalP_sound htr hc h2
      refine ⟨by simp [hl], fun j x p hx hp => ?_⟩
      cases j with
      | zero => simp at hx hp; subst hx; subst hp; exact ⟨rfl, evalO_rep htr hc h1⟩
      | succ j => simp at hx hp; exact hg j x p hx hp
    · simp at h

theorem allNT_get : ∀ {l : List (Nat × V)}, allNT l = true → ∀ (i : Nat) p, l[i]? = some p → noTup p.2 = true
  | [], _, i, p, h => by simp at h
  | q :: r, h, i, p, hp => by
    simp only [allNT, Bool.and_eq_true] at h
    cases i with
    | zero => simp at hp; subst hp; exact h.1
    | succ i => simp at hp; exact allNT_get h.2 i p hp

theorem evalOO_rep {T : Env} {a : Act} {ctx : Ctx} (htr : TR g w T a.tmps) (hc : ctxOk a.tmps ctx) {x : Option Operand} {y : Option V} (h : evalOO T ctx x = some y) :
    (y = none ∧ x.map a.eval = none) ∨ ∃ z v, y = some z ∧ x.map a.eval = some v ∧ Rep g w z v := by
  cases x with
  | none => simp [evalOO] at h; exact .inl ⟨h.symm, rfl⟩
  | some x =>
    simp only [evalOO] at h
    split at h
    · rename_i z hz
      simp at h; subst h
      exact .inr ⟨z, _, rfl, rfl, evalO_rep htr hc hz⟩
    · simp at h

end Go.Abs
