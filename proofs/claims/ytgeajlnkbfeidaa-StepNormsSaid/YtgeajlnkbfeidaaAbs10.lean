/- What makes and writes memory, operation by operation. -/
import Derived.Test.YtgeajlnkbfeidaaAbs9
namespace Go.Abs
open Go Go.RowKit

variable {P : Program} {tt : TT} {g : Gh} {w : World} {H : Heap}

theorem SR.newVec (h : SR g w H) {t : TypeId} {cs : Array Value} {k cap : Nat} {xs : List V} (c : Nat → Value)
    (hrep : ∀ (i : Nat) x, xs[i]? = some x → Rep g w x (c i) ∧ (c i).cells.size = k ∧ ∀ (j : Nat) y, (c i).cells[j]? = some y → cs[i * k + j]? = some y)
    (hsz : cs.size = k * cap) (hcap : xs.length ≤ cap) (hnt : ∀ x ∈ xs, noTup x = true) :
    SR (g.more w.heap.size 0 k cap) (w.alloc (.cells cs t)) (H ++ [.vec k xs]) ∧ Ext g w (g.more w.heap.size 0 k cap) (w.alloc (.cells cs t)) ∧
      Rep (g.more w.heap.size 0 k cap) (w.alloc (.cells cs t)) (.msl k H.length 0 xs.length) (.slice (some ⟨w.heap.size, 0, none⟩) xs.length cap) ∧
      Rep (g.more w.heap.size 0 k cap) (w.alloc (.cells cs t)) (.lp H.length 0 0) (.pointer (some ⟨w.heap.size, 0, none⟩)) := by
  obtain ⟨h1, e1⟩ := h.alloc (.cells cs t)
  have hd : ∀ l k' es, H[l]? = some (.vec k' es) → ∀ j j', j < g.k l * g.cap l → j' < k * cap → ¬ (g.blk l = w.heap.size ∧ g.off l + j = 0 + j') := fun l k' es hl j j' hj _ ⟨hb, _⟩ => by
    have := h.vec_lt hl hj; omega
  have h2 := h1.more (b := w.heap.size) (o := 0) (k := k) (cap := cap) (xs := xs) hcap hnt c
    (fun i x hx => ⟨(hrep i x hx).1.ext e1.toExt0, (hrep i x hx).2.1, fun j y hy => by
      rw [Nat.zero_add, cell?_allocNew]; exact (hrep i x hx).2.2 j y hy⟩)
    (fun j hj => ⟨by rw [Nat.zero_add, cell?_allocNew]; simp [hsz, hj], frozen?_allocNew, fun hf => by
      have := cell?_lt (h.fxc _ _ hf); omega⟩)
    hd
  have e2 : Ext g w (g.more w.heap.size 0 k cap) (w.alloc (.cells cs t)) := e1.more (.inl (Nat.le_refl _))
  refine ⟨h2, e2, ?_, ?_⟩
  · have := Rep.msl (g := g.more w.heap.size 0 k cap) (w := w.alloc (.cells cs t)) g.n 0 xs.length (Nat.lt_succ_self _) (by simpa [Gh.more, upd_same] using hcap)
    rw [h.len]
    simpa [Gh.more, upd_same] using this
  · have := Rep.lp (g := g.more w.heap.size 0 k cap) (w := w.alloc (.cells cs t)) g.n 0 0 (Nat.lt_succ_self _)
    rw [h.len]
    simpa [Gh.more, upd_same] using this

theorem SR.newFrozen (h : SR g w H) {t : TypeId} {cs : Array Value} {k cap n : Nat} (el : Nat → V) (c : Nat → Value)
    (hrep : ∀ i, i < n → Rep g w (el i) (c i) ∧ (c i).cells.size = k ∧ ∀ (j : Nat) y, (c i).cells[j]? = some y → cs[i * k + j]? = some y)
    (hsz : cs.size = k * cap) (hcap : n ≤ cap) (hnt : ∀ i, i < n → noTup (el i) = true) :
    SR (g.fix w.heap.size 0 (k * cap)) (w.alloc (.cells cs t)) H ∧ Ext g w (g.fix w.heap.size 0 (k * cap)) (w.alloc (.cells cs t)) ∧
      Rep (g.fix w.heap.size 0 (k * cap)) (w.alloc (.cells cs t)) (.sl false n el) (.slice (some ⟨w.heap.size, 0, none⟩) n cap) := by
  obtain ⟨h1, e1⟩ := h.alloc (.cells cs t)
  have e : Ext g w (g.fix w.heap.size 0 (k * cap)) (w.alloc (.cells cs t)) :=
    { fx := fun _ _ h => .inl h, cell := e1.cell, n := Nat.le_refl _, blk := fun _ _ => rfl, off := fun _ _ => rfl, k := fun _ _ => rfl, cap := fun _ _ => rfl,
      size := e1.size, os := rfl, tape := rfl, output := rfl, keep := e1.keep, newblk := fun l h1 h2 => absurd h2 (by simp [Gh.fix]; omega) }
  have e' : Ext0 g (w.alloc (.cells cs t)) (g.fix w.heap.size 0 (k * cap)) (w.alloc (.cells cs t)) :=
    { fx := fun _ _ h => .inl h, cell := fun _ _ _ => rfl, n := Nat.le_refl _, blk := fun _ _ => rfl, off := fun _ _ => rfl, k := fun _ _ => rfl, cap := fun _ _ => rfl }
  refine ⟨{ len := h1.len, fxc := ?_, nt := h1.nt, kk := h1.kk, vec := ?_, raw := h1.raw, disj := h1.disj, rawd := h1.rawd }, e, ?_⟩
  · rintro b o (hf | ⟨rfl, _, ho⟩)
    · exact h1.fxc b o hf
    · rw [cell?_allocNew]; simp [hsz]; omega
  · intro l k' es hl
    obtain ⟨a1, ⟨c', hc'⟩, a3⟩ := h1.vec l k' es hl
    refine ⟨a1, ⟨c', fun i x hx => ⟨(hc' i x hx).1.ext e', (hc' i x hx).2⟩⟩, fun j hj => ⟨(a3 j hj).1, (a3 j hj).2.1, ?_⟩⟩
    rintro (hf | ⟨hb, _, _⟩)
    · exact (a3 j hj).2.2 hf
    · have := h.vec_lt hl hj
      change g.blk l = _ at hb
      omega
  · refine .sl n el _ _ k cap c (fun i hi => (hrep i hi).1.ext e.toExt0) (fun i hi => (hrep i hi).2.1) (fun i hi j y hy => ?_) (fun i hi j hj => .inr ⟨rfl, Nat.zero_le _, ?_⟩) hcap hnt
    · rw [Nat.zero_add, cell?_allocNew]; exact (hrep i hi).2.2 j y hy
    · have : (i + 1) * k ≤ cap * k := Nat.mul_le_mul_right _ (by omega)
      rw [Nat.add_mul, Nat.one_mul] at this
      rw [Nat.mul_comm k]
      omega

/-! ### Stores -/

/-- Cells of one block are written. -/
structure Wr (w w' : World) (b lo hi : Nat) : Prop where
  os : w'.os = w.os
  tape : w'.tape = w.tape
  output : w'.output = w.output
  size : w'.heap.size = w.heap.size
  other : ∀ b', b' ≠ b → w'.heap[b']? = w.heap[b']?
  block : ∃ c t f c', w.heap[b]? = some (.cells c t f) ∧ w'.heap[b]? = some (.cells c' t f) ∧ c'.size = c.size ∧ ∀ o, (o < lo ∨ hi ≤ o) → c'[o]? = c[o]?

theorem Wr.cell {w w' : World} {b lo hi b' o : Nat} (h : Wr w w' b lo hi) (ho : b' ≠ b ∨ o < lo ∨ hi ≤ o) : w'.cell? ⟨b', o, none⟩ = w.cell? ⟨b', o, none⟩ := by
  by_cases hb : b' = b
  · subst hb
    obtain ⟨c, t, f, c', h1, h2, h3, h4⟩ := h.block
    rw [cell?_of h1, cell?_of h2]
    exact h4 o (ho.resolve_left (by simp))
  · simp only [World.cell?, h.other b' hb]

theorem Wr.frozen {w w' : World} {b lo hi b' o : Nat} (h : Wr w w' b lo hi) : w'.frozen? ⟨b', o, none⟩ = w.frozen? ⟨b', o, none⟩ := by
  by_cases hb : b' = b
  · subst hb
    obtain ⟨c, t, f, c', h1, h2, h3, h4⟩ := h.block
    simp [World.frozen?, h1, h2]
  · simp only [World.frozen?, h.other b' hb]

theorem some_at (x : Array Value) (o : Nat) : x[o]?.isSome = decide (o < x.size) := by
  by_cases ho : o < x.size <;> simp [ho]

theorem Wr.isSome {w w' : World} {b lo hi b' o : Nat} (h : Wr w w' b lo hi) : (w'.cell? ⟨b', o, none⟩).isSome = (w.cell? ⟨b', o, none⟩).isSome := by
  by_cases hb : b' = b
  · subst hb
    obtain ⟨c, t, f, c', h1, h2, h3, h4⟩ := h.block
    rw [cell?_of h1, cell?_of h2, some_at, some_at, h3]
  · simp only [World.cell?, h.other b' hb]

theorem run_storeCells' : ∀ (vs : List Value) (i : Nat) (w : World) {b o : Nat} {c : Array Value} {t : TypeId} {f : Nat × Nat}, w.heap[b]? = Option.some (.cells c t f) → o + i + vs.length ≤ c.size → (∀ v ∈ vs, one v = true) →
    (∀ j, j < vs.length → w.frozen? ⟨b, o + i + j, none⟩ = false) →
    ∃ w', (storeCells ⟨b, o, none⟩ vs i).run P w = .ok () w' ∧ Wr w w' b (o + i) (o + i + vs.length) ∧ ∀ (j : Nat) v, vs[j]? = Option.some v → w'.cell? ⟨b, o + i + j, none⟩ = Option.some v
  | [], i, w, b, o, c, t, f, hb, _, _, _ => ⟨w, rfl, ⟨rfl, rfl, rfl, rfl, fun _ _ => rfl, c, t, f, c, hb, hb, rfl, fun _ _ => rfl⟩, by simp⟩
  | v :: vs, i, w, b, o, c, t, f, hb, hl, ho, hf => by
    simp only [List.length_cons] at hl hf
    have hv := ho v (List.mem_cons_self ..)
    have hcell : w.cell? ⟨b, o + i, none⟩ = Option.some c[o + i] := by rw [cell?_of hb, Array.getElem?_eq_getElem (by omega)]
    have hfr := hf 0 (by omega)
    simp only [Nat.add_zero] at hfr
    have hst : (store ⟨b, o + i, none⟩ v).run P w = .ok () (w.setCell ⟨b, o + i, none⟩ v) := by
      cases v <;> first | (simp [one] at hv; done) | simp [store, Sem.run, hcell, hfr]
    have hb' : (w.setCell ⟨b, o + i, none⟩ v).heap[b]? = Option.some (.cells (c.setIfInBounds (o + i) v) t f) := by
      simp [World.setCell, Array.getElem?_modify, hb]
    have hw1 : Wr w (w.setCell ⟨b, o + i, none⟩ v) b (o + i) (o + i + 1) :=
      ⟨rfl, rfl, rfl, by simp, fun b' hne => Below.heap_setCell _ _ _ _ hne, c, t, f, _, hb, hb', by simp, fun p hp => by
        rw [Array.getElem?_setIfInBounds_ne (by omega)]⟩
    obtain ⟨w', hr, hw, hg⟩ := run_storeCells' vs (i + 1) (w.setCell ⟨b, o + i, none⟩ v) (o := o) hb' (by simp; omega) (fun u hu => ho u (List.mem_cons_of_mem _ hu)) (fun j hj => by
      rw [hw1.frozen]; have := hf (j + 1) (by omega); rwa [show o + i + (j + 1) = o + (i + 1) + j by omega] at this)
    refine ⟨w', ?_, ?_, ?_⟩
    · simp only [storeCells, Sem.run_bind, addr_add, hst, Result.andThen]
      exact hr
    · obtain ⟨c1, t1, f1, c2, q1, q2, q3, q4⟩ := hw.block
      rw [hb'] at q1
      cases q1
      refine ⟨hw.os, hw.tape, hw.output, by rw [hw.size]; simp, fun b' hne => (hw.other b' hne).trans (hw1.other b' hne), c, t, f, c2, hb, q2, by simpa using q3, fun p hp => ?_⟩
      simp only [List.length_cons] at hp
      rw [q4 p (by omega), Array.getElem?_setIfInBounds_ne (by omega)]
    · intro j u hj
      cases j with
      | zero =>
        simp at hj; subst hj
        rw [Nat.add_zero, hw.cell (.inr (.inl (by omega)))]
        exact World.cell?_setCell_same w _ _ hcell
      | succ j =>
        simp at hj
        have := hg j u hj
        rwa [show o + (i + 1) + j = o + i + (j + 1) by omega] at this

end Go.Abs
