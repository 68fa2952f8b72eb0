/- Memory: what is made, written and frozen, on abstract states. -/
import Derived.Test.YtgeajlnkbfeidaaAbs8
namespace Go.Abs
open Go Go.RowKit

variable {P : Program} {tt : TT} {g : Gh} {w : World} {H : Heap}

theorem cell?_spot0 {w : World} {b o : Nat} {x : Value} (h : w.cell? ⟨b, o, none⟩ = some x) : ∃ c t f, w.heap[b]? = some (.cells c t f) ∧ c[o]? = some x := by
  simp only [World.cell?] at h
  split at h
  · rename_i c t f hc
    exact ⟨c, t, f, hc, by simpa using h⟩
  · cases h

theorem cell?_of {w : World} {b o : Nat} {c : Array Value} {t : TypeId} {f : Nat × Nat} (h : w.heap[b]? = some (.cells c t f)) : w.cell? ⟨b, o, none⟩ = c[o]? := by
  simp [World.cell?, h]

theorem cell?_lt {w : World} {b o : Nat} (h : (w.cell? ⟨b, o, none⟩).isSome = true) : b < w.heap.size := by
  obtain ⟨x, hx⟩ := Option.isSome_iff_exists.1 h
  obtain ⟨c, t, f, hc, _⟩ := cell?_spot0 hx
  exact (Array.getElem?_eq_some_iff.1 hc).1

theorem alloc_old {w : World} {o : Obj} {b : Nat} (h : b < w.heap.size) : (w.alloc o).heap[b]? = w.heap[b]? := Below.heap_alloc w o b h

theorem cell?_alloc' {w : World} {o : Obj} {b i : Nat} (h : b < w.heap.size) : (w.alloc o).cell? ⟨b, i, none⟩ = w.cell? ⟨b, i, none⟩ := by
  simp only [World.cell?, alloc_old h]

theorem frozen?_alloc' {w : World} {o : Obj} {b i : Nat} (h : b < w.heap.size) : (w.alloc o).frozen? ⟨b, i, none⟩ = w.frozen? ⟨b, i, none⟩ := by
  simp only [World.frozen?, alloc_old h]

theorem cell?_allocNew {w : World} {c : Array Value} {t : TypeId} {i : Nat} : (w.alloc (.cells c t)).cell? ⟨w.heap.size, i, none⟩ = c[i]? :=
  cell?_of (World.alloc_heap_new w _)

theorem frozen?_allocNew {w : World} {c : Array Value} {t : TypeId} {i : Nat} : (w.alloc (.cells c t)).frozen? ⟨w.heap.size, i, none⟩ = false := by
  simp only [World.frozen?, World.alloc_heap_new]
  simp

def upd {α : Type} (f : Nat → α) (n : Nat) (x : α) : Nat → α := fun i => if i = n then x else f i

theorem upd_same {α : Type} (f : Nat → α) (n : Nat) (x : α) : upd f n x n = x := by simp [upd]
theorem upd_ne {α : Type} (f : Nat → α) {n i : Nat} (x : α) (h : i ≠ n) : upd f n x i = f i := by simp [upd, h]

/-- The ghost state with one more place. -/
def Gh.more (g : Gh) (b o k cap : Nat) : Gh := { g with n := g.n + 1, blk := upd g.blk g.n b, off := upd g.off g.n o, k := upd g.k g.n k, cap := upd g.cap g.n cap }

/-- The ghost state with more fixed cells. -/
def Gh.fix (g : Gh) (b o n : Nat) : Gh := { g with fx := fun b' o' => g.fx b' o' ∨ (b' = b ∧ o ≤ o' ∧ o' < o + n) }

theorem ext0_more {b o k cap : Nat} : Ext0 g w (g.more b o k cap) w where
  fx _ _ h := h
  cell _ _ _ := rfl
  n := Nat.le_succ _
  blk l h := upd_ne _ _ (Nat.ne_of_lt h)
  off l h := upd_ne _ _ (Nat.ne_of_lt h)
  k l h := upd_ne _ _ (Nat.ne_of_lt h)
  cap l h := upd_ne _ _ (Nat.ne_of_lt h)

theorem Ext.more {w' : World} {b o k cap : Nat} (e : Ext g w g w') (hb : w.heap.size ≤ b ∨ ∃ l0, l0 < g.n ∧ g.blk l0 = b) : Ext g w (g.more b o k cap) w' :=
  { fx := fun _ _ h => h, cell := e.cell, n := Nat.le_succ _, blk := fun l h => upd_ne _ _ (Nat.ne_of_lt h), off := fun l h => upd_ne _ _ (Nat.ne_of_lt h), k := fun l h => upd_ne _ _ (Nat.ne_of_lt h), cap := fun l h => upd_ne _ _ (Nat.ne_of_lt h),
    size := e.size, os := e.os, tape := e.tape, output := e.output, keep := e.keep,
    newblk := fun l h1 h2 => by
      have : l = g.n := by simp only [Gh.more] at h2; omega
      subst this
      simpa [Gh.more, upd_same] using hb }

/-- What a state says stays, where the world changed beside it. -/
theorem SR.move {w' : World} (h : SR g w H) (e : Ext g w g w')
    (hv : ∀ l k es, H[l]? = some (.vec k es) → ∀ j, j < g.k l * g.cap l → w'.cell? ⟨g.blk l, g.off l + j, none⟩ = w.cell? ⟨g.blk l, g.off l + j, none⟩ ∧ w'.frozen? ⟨g.blk l, g.off l + j, none⟩ = w.frozen? ⟨g.blk l, g.off l + j, none⟩)
    (hr : ∀ l o, H[l]? = some (.raw o) → w'.heap[g.blk l]? = w.heap[g.blk l]?) : SR g w' H where
  len := h.len
  fxc b o hf := by rw [e.cell b o hf]; exact h.fxc b o hf
  kk := h.kk
  nt := h.nt
  vec l k es hl := by
    obtain ⟨h1, ⟨c, hc⟩, h3⟩ := h.vec l k es hl
    refine ⟨h1, ⟨c, fun i x hx => ?_⟩, fun j hj => ?_⟩
    · obtain ⟨a1, a2, a3⟩ := hc i x hx
      refine ⟨a1.ext e.toExt0, a2, fun j y hy => ?_⟩
      have hi : i < es.length := (List.getElem?_eq_some_iff.1 hx).1
      have hj : j < g.k l := by rw [← a2]; exact (Array.getElem?_eq_some_iff.1 hy).1
      have hlt : i * g.k l + j < g.k l * g.cap l := by
        have : (i + 1) * g.k l ≤ g.cap l * g.k l := Nat.mul_le_mul_right _ (by omega)
        rw [Nat.add_mul, Nat.one_mul] at this
        rw [Nat.mul_comm (g.k l)]
        omega
      have := (hv l k es hl _ hlt).1
      rw [← Nat.add_assoc] at this
      rw [this]
      exact a3 j y hy
    · obtain ⟨a1, a2, a3⟩ := h3 j hj
      rw [(hv l k es hl j hj).1, (hv l k es hl j hj).2]
      exact ⟨a1, a2, a3⟩
  raw l o hl := by rw [hr l o hl]; exact h.raw l o hl
  disj := h.disj
  rawd := h.rawd

theorem SR.vec_lt (h : SR g w H) {l k : Nat} {es : List V} (hl : H[l]? = some (.vec k es)) {j : Nat} (hj : j < g.k l * g.cap l) : g.blk l < w.heap.size :=
  cell?_lt ((h.vec l k es hl).2.2 j hj).1

theorem SR.raw_lt (h : SR g w H) {l : Nat} {o : Obj} (hl : H[l]? = some (.raw o)) : g.blk l < w.heap.size :=
  (Array.getElem?_eq_some_iff.1 (h.raw l o hl).1).1

theorem SR.alloc (h : SR g w H) (o : Obj) : SR g (w.alloc o) H ∧ Ext g w g (w.alloc o) := by
  have e : Ext g w g (w.alloc o) :=
    { fx := fun _ _ h => h, cell := fun b o hf => cell?_alloc' (cell?_lt (h.fxc b o hf)), n := Nat.le_refl _, blk := fun _ _ => rfl, off := fun _ _ => rfl, k := fun _ _ => rfl, cap := fun _ _ => rfl,
      size := by simp, os := rfl, tape := rfl, output := rfl, keep := fun b hb _ => alloc_old hb, newblk := fun l h1 h2 => absurd h2 (by omega) }
  exact ⟨h.move e (fun l k es hl j hj => ⟨cell?_alloc' (h.vec_lt hl hj), frozen?_alloc' (h.vec_lt hl hj)⟩) (fun l o hl => alloc_old (h.raw_lt hl)), e⟩

theorem SR.drew (h : SR g w H) : SR g w.drew H ∧ Ext g w g w.drew := by
  have e : Ext g w g w.drew :=
    { fx := fun _ _ h => h, cell := fun b o hf => rfl, n := Nat.le_refl _, blk := fun _ _ => rfl, off := fun _ _ => rfl, k := fun _ _ => rfl, cap := fun _ _ => rfl,
      size := Nat.le_refl _, os := rfl, tape := rfl, output := rfl, keep := fun b hb _ => rfl, newblk := fun l h1 h2 => absurd h2 (by omega) }
  exact ⟨h.move e (fun l k es hl j hj => ⟨rfl, rfl⟩) (fun l o hl => rfl), e⟩

/-- One more place, with elements. -/
theorem SR.more (h : SR g w H) {b o k cap : Nat} {xs : List V} (hcap : xs.length ≤ cap) (hnt : ∀ x ∈ xs, noTup x = true) (c : Nat → Value)
    (hc : ∀ i x, xs[i]? = some x → Rep g w x (c i) ∧ (c i).cells.size = k ∧ Holds w b (o + i * k) (c i))
    (hcl : ∀ j, j < k * cap → (w.cell? ⟨b, o + j, none⟩).isSome = true ∧ w.frozen? ⟨b, o + j, none⟩ = false ∧ ¬ g.fx b (o + j))
    (hd : ∀ l k' es, H[l]? = some (.vec k' es) → ∀ j j', j < g.k l * g.cap l → j' < k * cap → ¬ (g.blk l = b ∧ g.off l + j = o + j'))
    : SR (g.more b o k cap) w (H ++ [.vec k xs]) := by
  have e : Ext0 g w (g.more b o k cap) w := ext0_more
  have hat : ∀ l ob, (H ++ [.vec k xs])[l]? = some ob → (l < g.n ∧ H[l]? = some ob) ∨ (l = g.n ∧ ob = .vec k xs) := by
    intro l ob hl
    rw [List.getElem?_append] at hl
    split at hl
    · rename_i hlt; exact .inl ⟨by rw [← h.len]; exact hlt, hl⟩
    · rename_i hge
      have hlen := h.len
      have h0 : l - H.length = 0 := by
        have := (List.getElem?_eq_some_iff.1 hl).1
        simp at this; omega
      rw [h0] at hl
      simp at hl
      exact .inr ⟨by omega, hl.symm⟩
  refine { len := by simp [Gh.more, h.len], fxc := h.fxc, nt := ?_, kk := ?_, vec := ?_, raw := ?_, disj := ?_, rawd := ?_ }
  · intro l k' es hl
    rcases hat l _ hl with ⟨hlt, hl'⟩ | ⟨rfl, he⟩
    · exact h.nt l k' es hl'
    · cases he; exact hnt
  · intro l k' es hl
    rcases hat l _ hl with ⟨hlt, hl'⟩ | ⟨rfl, he⟩
    · rw [e.k l hlt]; exact h.kk l k' es hl'
    · cases he; simp only [Gh.more, upd_same]
  · intro l k' es hl
    rcases hat l _ hl with ⟨hlt, hl'⟩ | ⟨rfl, he⟩
    · obtain ⟨h1, ⟨c', hc'⟩, h3⟩ := h.vec l k' es hl'
      have e1 := e.blk l hlt; have e2 := e.off l hlt; have e3 := e.k l hlt; have e4 := e.cap l hlt
      rw [e1, e2, e3, e4]
      exact ⟨h1, ⟨c', fun i x hx => ⟨(hc' i x hx).1.ext e, (hc' i x hx).2⟩⟩, h3⟩
    · cases he
      simp only [Gh.more, upd_same]
      exact ⟨hcap, ⟨c, fun i x hx => ⟨(hc i x hx).1.ext e, (hc i x hx).2⟩⟩, hcl⟩
  · intro l ob hl
    rcases hat l _ hl with ⟨hlt, hl'⟩ | ⟨rfl, he⟩
    · rw [e.blk l hlt]; exact h.raw l ob hl'
    · cases he
  · intro l l' k1 k2 es es' hl hl' hne j j' hj hj'
    rcases hat l _ hl with ⟨hlt, hl1⟩ | ⟨rfl, he⟩ <;> rcases hat l' _ hl' with ⟨hlt', hl1'⟩ | ⟨he0, he'⟩
    · rw [e.blk l hlt, e.off l hlt, e.blk l' hlt', e.off l' hlt']
      rw [e.k l hlt, e.cap l hlt] at hj
      rw [e.k l' hlt', e.cap l' hlt'] at hj'
      exact h.disj l l' k1 k2 es es' hl1 hl1' hne j j' hj hj'
    · subst he0
      rw [e.blk l hlt, e.off l hlt]
      rw [e.k l hlt, e.cap l hlt] at hj
      simp only [Gh.more, upd_same] at hj' ⊢
      exact hd l k1 es hl1 j j' hj hj'
    · rw [e.blk l' hlt', e.off l' hlt']
      rw [e.k l' hlt', e.cap l' hlt'] at hj'
      simp only [Gh.more, upd_same] at hj ⊢
      intro ⟨a, b⟩
      exact hd l' k2 es' hl1' j' j hj' hj ⟨a.symm, b.symm⟩
    · exact absurd he0.symm hne
  · intro l l' o1 o2 hl hl' hne
    rcases hat l _ hl with ⟨hlt, hl1⟩ | ⟨rfl, he⟩
    · rcases hat l' _ hl' with ⟨hlt', hl1'⟩ | ⟨he0, he'⟩
      · rw [e.blk l hlt, e.blk l' hlt']; exact h.rawd l l' o1 o2 hl1 hl1' hne
      · cases he'
    · cases he

/-- A place is given up. -/
theorem SR.kill (h : SR g w H) (l : Nat) : SR g w (H.set l .dead) := by
  have hat : ∀ (l' : Nat) (ob : AObj), (H.set l AObj.dead)[l']? = some ob → ob ≠ AObj.dead → H[l']? = some ob := by
    intro l' ob hl hne
    rw [List.getElem?_set] at hl
    split at hl
    · split at hl
      · simp at hl; exact absurd hl.symm hne
      · cases hl
    · exact hl
  exact { len := by simp [h.len], fxc := h.fxc, nt := fun l' k es hl => h.nt l' k es (hat _ _ hl (by simp)), kk := fun l' k es hl => h.kk l' k es (hat _ _ hl (by simp)), vec := fun l' k es hl => h.vec l' k es (hat _ _ hl (by simp)), raw := fun l' o hl => h.raw l' o (hat _ _ hl (by simp)),
          disj := fun a b k k' es es' ha hb => h.disj a b k k' es es' (hat _ _ ha (by simp)) (hat _ _ hb (by simp)), rawd := fun a b es es' ha hb => h.rawd a b es es' (hat _ _ ha (by simp)) (hat _ _ hb (by simp)) }

/-- A place's contents are written anew. -/
theorem SR.write {w' : World} (h : SR g w H) (e : Ext g w g w') {l ke : Nat} {es es' : List V} (hl : H[l]? = some (.vec ke es))
    (hv : ∀ l' k' es', l' ≠ l → H[l']? = some (.vec k' es') → ∀ j, j < g.k l' * g.cap l' → w'.cell? ⟨g.blk l', g.off l' + j, none⟩ = w.cell? ⟨g.blk l', g.off l' + j, none⟩ ∧ w'.frozen? ⟨g.blk l', g.off l' + j, none⟩ = w.frozen? ⟨g.blk l', g.off l' + j, none⟩)
    (hr : ∀ l o, H[l]? = some (.raw o) → w'.heap[g.blk l]? = w.heap[g.blk l]?)
    (hcap : es'.length ≤ g.cap l) (hnt : ∀ x ∈ es', noTup x = true) (c : Nat → Value) (hc : ∀ i x, es'[i]? = some x → Rep g w x (c i) ∧ (c i).cells.size = g.k l ∧ Holds w' (g.blk l) (g.off l + i * g.k l) (c i))
    (hcl : ∀ j, j < g.k l * g.cap l → (w'.cell? ⟨g.blk l, g.off l + j, none⟩).isSome = true ∧ w'.frozen? ⟨g.blk l, g.off l + j, none⟩ = false) : SR g w' (H.set l (.vec ke es')) := by
  have hlt : l < H.length := (List.getElem?_eq_some_iff.1 hl).1
  have hat : ∀ l' ob, (H.set l (.vec ke es'))[l']? = some ob → (l' = l ∧ ob = .vec ke es') ∨ (l' ≠ l ∧ H[l']? = some ob) := by
    intro l' ob hl'
    rw [List.getElem?_set] at hl'
    split at hl'
    · rename_i heq
      simp [heq ▸ hlt] at hl'
      exact .inl ⟨heq.symm, hl'.symm⟩
    · rename_i hne; exact .inr ⟨fun e => hne e.symm, hl'⟩
  have hm := (h.kill l).move e (fun l' k1 es1 hl1 j hj => by
    have : l' ≠ l := by
      rintro rfl
      rw [List.getElem?_set] at hl1; simp [hlt] at hl1
    refine hv l' k1 es1 this ?_ j hj
    rwa [List.getElem?_set_ne (Ne.symm this)] at hl1) (fun l' o hl1 => by
    have : l' ≠ l := by
      rintro rfl
      rw [List.getElem?_set] at hl1; simp [hlt] at hl1
    exact hr l' o (by rwa [List.getElem?_set_ne (Ne.symm this)] at hl1))
  have back : ∀ l' ob, l' ≠ l → H[l']? = some ob → (H.set l AObj.dead)[l']? = some ob := fun l' ob hne hl' => by rw [List.getElem?_set_ne (Ne.symm hne)]; exact hl'
  refine { len := by simp [h.len], fxc := hm.fxc, nt := ?_, kk := ?_, vec := ?_, raw := ?_, disj := ?_, rawd := ?_ }
  · intro l' k1 es1 hl1
    rcases hat _ _ hl1 with ⟨rfl, he⟩ | ⟨hne, hl2⟩
    · cases he; exact hnt
    · exact h.nt l' k1 es1 hl2
  · intro l' k1 es1 hl1
    rcases hat _ _ hl1 with ⟨rfl, he⟩ | ⟨hne, hl2⟩
    · cases he; exact h.kk _ _ _ hl
    · exact h.kk l' k1 es1 hl2
  · intro l' k1 es1 hl1
    rcases hat _ _ hl1 with ⟨rfl, he⟩ | ⟨hne, hl2⟩
    · cases he
      exact ⟨hcap, ⟨c, fun i x hx => ⟨(hc i x hx).1.ext e.toExt0, (hc i x hx).2⟩⟩, fun j hj => ⟨(hcl j hj).1, (hcl j hj).2, ((h.vec _ _ _ hl).2.2 j hj).2.2⟩⟩
    · exact hm.vec l' k1 es1 (back _ _ hne hl2)
  · intro l' o hl1
    rcases hat _ _ hl1 with ⟨rfl, he⟩ | ⟨hne, hl2⟩
    · cases he
    · exact hm.raw l' o (back _ _ hne hl2)
  · intro a b k1 k2 es1 es2 ha hb hne
    rcases hat _ _ ha with ⟨rfl, he⟩ | ⟨hna, ha2⟩ <;> rcases hat _ _ hb with ⟨hb1, he'⟩ | ⟨hnb, hb2⟩
    · exact absurd hb1.symm hne
    · exact h.disj _ _ _ _ _ _ hl hb2 hne
    · subst hb1; exact h.disj _ _ _ _ _ _ ha2 hl hne
    · exact h.disj _ _ _ _ _ _ ha2 hb2 hne
  · intro a b o1 o2 ha hb hne
    rcases hat _ _ ha with ⟨rfl, he⟩ | ⟨hna, ha2⟩
    · cases he
    · rcases hat _ _ hb with ⟨hb1, he'⟩ | ⟨hnb, hb2⟩
      · cases he'
      · exact h.rawd _ _ _ _ ha2 hb2 hne

/-- A place is frozen: what it holds is fixed from now on. -/
theorem SR.freeze (h : SR g w H) {l ke : Nat} {es : List V} (hl : H[l]? = some (.vec ke es)) :
    SR (g.fix (g.blk l) (g.off l) (g.k l * es.length)) w (H.set l .dead) ∧ Ext g w (g.fix (g.blk l) (g.off l) (g.k l * es.length)) w ∧
      ∀ v, Rep g w (.msl ke l 0 es.length) v → Rep (g.fix (g.blk l) (g.off l) (g.k l * es.length)) w (.sl false es.length (fun i => es.getD i .bad)) v := by
  obtain ⟨h1, ⟨c, hc⟩, h3⟩ := h.vec l ke es hl
  have hkl : g.k l * es.length ≤ g.k l * g.cap l := Nat.mul_le_mul_left _ h1
  have hmine : ∀ o, g.off l ≤ o → o < g.off l + g.k l * es.length → (w.cell? ⟨g.blk l, o, none⟩).isSome = true := fun o ho1 ho2 => by
    have := (h3 (o - g.off l) (by omega)).1
    rwa [show g.off l + (o - g.off l) = o by omega] at this
  have e : Ext g w (g.fix (g.blk l) (g.off l) (g.k l * es.length)) w :=
    { fx := fun _ _ h => .inl h, cell := fun _ _ _ => rfl, n := Nat.le_refl _, blk := fun _ _ => rfl, off := fun _ _ => rfl, k := fun _ _ => rfl, cap := fun _ _ => rfl,
      size := Nat.le_refl _, os := rfl, tape := rfl, output := rfl, keep := fun _ _ _ => rfl, newblk := fun l h1 h2 => absurd h2 (by simp [Gh.fix]; omega) }
  have hlt : l < H.length := (List.getElem?_eq_some_iff.1 hl).1
  have hat : ∀ (l' : Nat) (ob : AObj), (H.set l AObj.dead)[l']? = some ob → ob ≠ AObj.dead → l' ≠ l ∧ H[l']? = some ob := by
    intro l' ob hl' hne
    by_cases heq : l' = l
    · subst heq; rw [List.getElem?_set] at hl'; simp [hlt] at hl'; exact absurd hl'.symm hne
    · exact ⟨heq, by rwa [List.getElem?_set_ne (Ne.symm heq)] at hl'⟩
  refine ⟨?_, e, ?_⟩
  · have hk := h.kill l
    refine { len := hk.len, fxc := ?_, nt := hk.nt, kk := hk.kk, vec := ?_, raw := hk.raw, disj := hk.disj, rawd := hk.rawd }
    · rintro b o (hf | ⟨rfl, ho1, ho2⟩)
      · exact h.fxc b o hf
      · exact hmine o ho1 ho2
    · intro l' k' es' hl'
      obtain ⟨hne, hl2⟩ := hat _ _ hl' (by simp)
      obtain ⟨a1, ⟨c', hc'⟩, a3⟩ := h.vec l' k' es' hl2
      refine ⟨a1, ⟨c', fun i x hx => ⟨(hc' i x hx).1.ext e.toExt0, (hc' i x hx).2⟩⟩, fun j hj => ⟨(a3 j hj).1, (a3 j hj).2.1, ?_⟩⟩
      rintro (hf | ⟨hb, ho1, ho2⟩)
      · exact (a3 j hj).2.2 hf
      · change g.blk l' = g.blk l at hb
        change g.off l ≤ g.off l' + j at ho1
        change g.off l' + j < g.off l + g.k l * es.length at ho2
        exact h.disj l' l k' ke es' es hl2 hl hne j (g.off l' + j - g.off l) hj (by omega) ⟨hb, by omega⟩
  · intro v hv
    obtain ⟨hln, hkk, ⟨hcap, rfl⟩ | ⟨hn, _, a, rfl⟩⟩ := hv.mslE
    case inr => rw [hn]; exact .sl0 _ _ _ _ (by simp)
    case inl =>
      rw [← hkk]
      refine .sl _ _ _ _ (g.k l) _ c (fun i hi => ?_) (fun i hi => ?_) (fun i hi => ?_) (fun i hi j hj => ?_) (by omega) (fun i hi => by
        rw [List.getD_eq_getElem?_getD, List.getElem?_eq_getElem hi]; exact h.nt _ _ _ hl _ (List.getElem_mem hi))
      · have hx : es[i]? = some es[i] := List.getElem?_eq_getElem hi
        have := ((hc i _ hx).1).ext e.toExt0
        simpa [List.getD, hx] using this
      · exact (hc i _ (List.getElem?_eq_getElem hi)).2.1
      · have := (hc i _ (List.getElem?_eq_getElem hi)).2.2
        simpa using this
      · refine .inr ⟨rfl, by omega, ?_⟩
        have : (i + 1) * g.k l ≤ es.length * g.k l := Nat.mul_le_mul_right _ (by omega)
        rw [Nat.add_mul, Nat.one_mul] at this
        rw [Nat.mul_comm (g.k l)]
        omega

end Go.Abs
