/- Loads and stores of what is owned; new variables. -/
import Derived.Test.YtgeajlnkbfeidaaAbs12
namespace Go.Abs
open Go Go.RowKit

variable {P : Program} {tt : TT} {g : Gh} {w : World} {H : Heap}

def loadV (tt : TT) (t : TypeId) (y : V) (o : Nat) : Option V :=
  match y with
  | .agg cs => partV tt t cs o
  | .tup _ => none
  | y => match tt t with
    | some e => match isAggD e.d, o with
      | false, 0 => some y
      | _, _ => none
    | none => none

def storeV (y : V) (o : Nat) (x : V) : Option V :=
  match y with
  | .agg cs => match noTup x && Nat.ble (o + x.cells.length) cs.length with
    | true => some (.agg (putAt cs o x.cells))
    | false => none
  | .tup _ => none
  | _ => match x, o with
    | .agg _, _ => none
    | .tup _, _ => none
    | x, 0 => some x
    | _, _ => none

theorem elem_at (h : SR g w H) {l k i : Nat} {es : List V} {y : V} (hl : H[l]? = some (.vec k es)) (hy : es[i]? = some y) :
    ∃ c, Rep g w y c ∧ c.cells.size = k ∧ g.k l = k ∧ noTup y = true ∧ Holds w (g.blk l) (g.off l + i * g.k l) c ∧ i < g.cap l := by
  obtain ⟨v1, ⟨c, hc⟩, v3⟩ := h.vec l k es hl
  have hkk := h.kk l k es hl
  obtain ⟨a1, a2, a3⟩ := hc i y hy
  have hi : i < es.length := (List.getElem?_eq_some_iff.1 hy).1
  exact ⟨c i, a1, by rw [a2, hkk], hkk, h.nt l k es hl y (List.mem_of_getElem? hy), a3, by omega⟩

theorem load_sound (htt : TTok P tt) (h : SR g w H) {t : TypeId} {e : TyE} (he : tt t = some e) {l k i o : Nat} {es : List V} {y x : V} {v : Value} (hl : H[l]? = some (.vec k es)) (hy : es[i]? = some y)
    (hv : Rep g w (.lp l i o) v) (hx : loadV tt t y o = some x) : ∃ u, (Instr.loadAt t v).run P w = .ok u w ∧ Rep g w x u := by
  obtain ⟨c, h1, h2, h3, h4, h5, h6⟩ := elem_at h hl hy
  obtain ⟨hln, rfl⟩ := hv.lpE
  have fin : ∀ u, Holds w (g.blk l) (g.off l + i * g.k l + o) u → ((isAggD e.d = true ∧ ∃ vs, u = .agg vs ∧ vs.size = e.size) ∨ (isAggD e.d = false ∧ one u = true)) →
      (Instr.loadAt t (.pointer (some ⟨g.blk l, g.off l + i * g.k l + o, none⟩))).run P w = .ok u w := by
    intro u hu hc
    simp only [Instr.loadAt, Instr.sureAddr, Sem.run_bind, Sem.run_pure, Result.andThen]
    exact run_loadVar_of htt he hu hc
  unfold loadV at hx
  split at hx
  · rename_i cs
    obtain ⟨vs, rfl, hr⟩ := h1.aggL
    obtain ⟨u, _, hrep, hcells, e', he', hsh⟩ := partV_sound htt hx hr
    rw [he] at he'; cases he'
    exact ⟨u, fin u (fun j z hz => by rw [Nat.add_assoc]; exact h5 _ _ (hcells j z hz)) hsh, hrep⟩
  · simp at hx
  · rw [he] at hx
    simp only at hx
    split at hx
    · rename_i hna hnt _ _ ha
      simp at hx; subst hx
      exact ⟨c, fin c (by simpa using h5) (.inr ⟨ha, h1.one_of (fun cs e => hna cs e) (fun cs e => hnt cs e)⟩), h1⟩
    · simp at hx

theorem putAt_rep {g : Gh} {w : World} : ∀ (xs : List V) (ys : List Value) (cs : List V) (vs : Array Value) (off k : Nat), RepL g w cs vs → xs.length = ys.length →
    (∀ (i : Nat) x y, xs[i]? = some x → ys[i]? = some y → Rep g w x y) → (∀ y ∈ ys, one y = true) →
    RepL g w (putAt cs (off + k) xs) ((ys.zipIdx k).foldl (fun cs (c, j) => cs.setIfInBounds (off + j) c) vs) := by
  intro xs
  induction xs with
  | nil => intro ys cs vs off k hr hl _ _; cases ys <;> simp at hl; simpa [putAt] using hr
  | cons x xs ih =>
    intro ys cs vs off k hr hl hrep hone
    cases ys with
    | nil => simp at hl
    | cons y ys =>
      simp only [putAt, List.zipIdx_cons, List.foldl_cons]
      rw [Nat.add_assoc]
      refine ih ys _ _ off (k + 1) ?_ (by simpa using hl) (fun i a b ha hb => hrep (i + 1) a b (by simpa using ha) (by simpa using hb)) (fun z hz => hone z (List.mem_cons_of_mem _ hz))
      refine ⟨by simp [hr.1], fun i a b ha hb => ?_, fun i b hb => ?_⟩
      · rw [List.getElem?_set] at ha
        rw [Array.getElem?_setIfInBounds] at hb
        split at ha
        · rename_i hi
          split at ha
          · simp at ha; subst ha
            rw [if_pos hi] at hb
            split at hb
            · simp at hb; subst hb; exact hrep 0 x y rfl rfl
            · cases hb
          · cases ha
        · rename_i hi
          rw [if_neg hi] at hb
          exact hr.2.1 i a b ha hb
      · rw [Array.getElem?_setIfInBounds] at hb
        split at hb
        · split at hb
          · simp at hb; subst hb; exact hone y (List.mem_cons_self ..)
          · cases hb
        · exact hr.2.2 i b hb

theorem noTup_putAt {cs : List V} {o : Nat} {xs : List V} : noTup (.agg (putAt cs o xs)) = true := rfl

/-- **A store.** -/
theorem store_sound (htt : TTok P tt) (h : SR g w H) {t : TypeId} {e : TyE} (he : tt t = some e) {l k i o : Nat} {es : List V} {y x y' : V} {v u : Value} (hl : H[l]? = some (.vec k es)) (hy : es[i]? = some y)
    (hv : Rep g w (.lp l i o) v) (hu : Rep g w x u) (hsz : szOk x e.size = true) (hx : storeV y o x = some y') :
    ∃ w', (Instr.storeAt t v u).run P w = .ok () w' ∧ SR g w' (H.set l (.vec k (es.set i y'))) ∧ Ext g w g w' := by
  obtain ⟨v1, ⟨c, hc⟩, v3⟩ := h.vec l k es hl
  obtain ⟨c0, h1, h2, h3, h4, h5, h6⟩ := elem_at h hl hy
  obtain ⟨hln, rfl⟩ := hv.lpE
  have hi : i < es.length := (List.getElem?_eq_some_iff.1 hy).1
  obtain ⟨hxn, hxl⟩ := szOk_spec hsz
  have hcl := hu.cellsL hxn
  have hus : u.cells.size = e.size := by rw [← hcl.1, hxl]
  have hun : ∀ z ∈ u.cells.toList, one z = true := fun z hz => by
    obtain ⟨j, hj, e⟩ := List.getElem_of_mem hz
    exact hcl.2.2 j z (by simp at hj; simp [← e, hj])
  have hagg : ∀ a, (Value.agg a).cells = a := fun _ => rfl
  -- the element behind the store, and that it fits
  have hnew : ∃ c', Rep g w y' c' ∧ noTup y' = true ∧ c'.cells.size = k ∧ o + e.size ≤ k ∧ (∀ j z, c'.cells[j]? = some z → (o ≤ j → j < o + e.size → u.cells[j - o]? = some z) ∧ ((j < o ∨ o + e.size ≤ j) → c0.cells[j]? = some z)) := by
    unfold storeV at hx
    split at hx
    · rename_i cs
      split at hx
      · rename_i hb
        simp only [Bool.and_eq_true] at hb
        have hb := Nat.le_of_ble_eq_true hb.2
        simp at hx; subst hx
        obtain ⟨vs, rfl, hr⟩ := h1.aggL
        have hp := putAt_rep x.cells u.cells.toList cs vs o 0 hr (by simpa using hcl.1) (fun j a b ha hb => hcl.2.1 j a b ha (by simpa using hb)) hun
        obtain ⟨p1, p2, p3⟩ := foldl_put o u.cells.toList 0 vs
        simp only [Nat.add_zero, Array.length_toList] at p1 p2 p3 hp
        refine ⟨_, hp.rep, rfl, by rw [hagg, p1]; exact h2, by rw [← h2, hagg, ← hr.1, ← hxl]; exact hb, fun j z hz => ⟨fun hj1 hj2 => ?_, fun hj => ?_⟩⟩
        · rw [hagg] at hz
          have hlt : j - o < u.cells.size := by rw [hus]; omega
          have hjv : o + (j - o) < vs.size := by rw [← hr.1, ]; rw [hxl] at hb; omega
          have := p3 (j - o) _ (by rw [Array.getElem?_toList]; exact Array.getElem?_eq_getElem hlt) hjv
          rw [show o + (j - o) = j by omega] at this
          rw [this] at hz
          rw [Array.getElem?_eq_getElem hlt]; exact hz
        · rw [hagg] at hz ⊢
          rw [p2 j (by omega)] at hz
          exact hz
      · simp at hx
    · simp at hx
    · split at hx
      · simp at hx
      · simp at hx
      · rename_i hna hnt _ _ hxa hxt
        simp at hx; subst hx
        have ho1 := h1.one_of (fun cs e => hna cs e) (fun cs e => hnt cs e)
        have ho2 := hu.one_of (fun cs e => hxa cs e) (fun cs e => hxt cs e)
        have hk1 : k = 1 := by rw [← h2, cells_of_one ho1]; rfl
        have he1 : e.size = 1 := by rw [← hus, cells_of_one ho2]; rfl
        refine ⟨u, hu, hxn, by rw [hus, he1, hk1], by omega, fun j z hz => ⟨fun _ _ => by simpa using hz, fun hj => ?_⟩⟩
        have := (Array.getElem?_eq_some_iff.1 hz).1
        omega
      · simp at hx
  obtain ⟨c', n1, n2, n3, n4, n5⟩ := hnew
  have hlim : i * k + k ≤ k * g.cap l := by
    have : (i + 1) * k ≤ g.cap l * k := Nat.mul_le_mul_right _ (by omega)
    rw [Nat.add_mul, Nat.one_mul] at this
    rw [Nat.mul_comm k]; exact this
  have hrun : ∀ w', (storeCells ⟨g.blk l, g.off l + i * g.k l + o, none⟩ u.cells.toList 0).run P w = .ok () w' → (Instr.storeAt t (.pointer (some ⟨g.blk l, g.off l + i * g.k l + o, none⟩)) u).run P w = .ok () w' := by
    intro w' hw
    simp only [Instr.storeAt, Instr.sureAddr, Sem.run_bind, Sem.run_pure, Result.andThen, storeVar, run_sizeOf' (P := P) (htt.facts he), hus]
    simp only [ne_eq, not_true_eq_false, if_false]
    exact hw
  by_cases h0 : e.size = 0
  · -- nothing is written
    have hu0 : u.cells.toList = [] := by rw [← List.length_eq_zero_iff]; simpa [hus] using h0
    refine ⟨w, hrun w (by rw [hu0]; rfl), ?_, Ext.refl g w⟩
    refine h.write (Ext.refl g w) hl (fun _ _ _ _ _ _ _ => ⟨rfl, rfl⟩) (fun _ _ _ => rfl) (by simpa using v1) (fun z hz => ?_) (fun j => if j = i then c' else c j) (fun j z hz => ?_) (fun j hj => ⟨(v3 j hj).1, (v3 j hj).2.1⟩)
    · rcases List.mem_or_eq_of_mem_set hz with hz | rfl
      · exact h.nt _ _ _ hl z hz
      · exact n2
    · rw [List.getElem?_set] at hz
      split at hz
      · rename_i hij; subst hij
        simp [hi] at hz; subst hz
        simp only [if_true]
        exact ⟨n1, by rw [n3, h3], fun j z hz => h5 j z ((n5 j z hz).2 (by omega))⟩
      · rename_i hij
        rw [if_neg (Ne.symm hij)]
        exact hc j z hz
  · have hblk : ∃ cs0 t0 f0, w.heap[g.blk l]? = some (.cells cs0 t0 f0) ∧ g.off l + k * g.cap l ≤ cs0.size := by
      have hlast := (v3 (g.k l * g.cap l - 1) (by rw [h3]; omega)).1
      obtain ⟨x, hx⟩ := Option.isSome_iff_exists.1 hlast
      obtain ⟨cs0, t0, f0, a1, a2⟩ := cell?_spot0 hx
      have := (Array.getElem?_eq_some_iff.1 a2).1
      rw [h3] at this
      exact ⟨cs0, t0, f0, a1, by omega⟩
    obtain ⟨cs0, t0, f0, hb1, hb2⟩ := hblk
    have hul : u.cells.toList.length = e.size := by simpa using hus
    obtain ⟨w', hst, hwr, hgot⟩ := run_storeCells' (P := P) u.cells.toList 0 w (b := g.blk l) (o := g.off l + i * g.k l + o) hb1 (by rw [h3]; omega) hun (fun j hj => by
      have := (v3 (i * k + o + j) (by rw [h3]; omega)).2.1
      rw [h3]; simpa [Nat.add_assoc] using this)
    simp only [Nat.add_zero, h3] at hwr hgot
    rw [hul] at hwr
    have hmine : ∀ p, g.off l + i * k + o ≤ p → p < g.off l + i * k + o + e.size → ∃ j, j < g.k l * g.cap l ∧ p = g.off l + j := fun p h1 h2 => ⟨p - g.off l, by rw [h3]; omega, by omega⟩
    have hext : Ext g w g w' :=
      { fx := fun _ _ h => h, cell := fun b' o' hf => hwr.cell (by
          by_cases hbb : b' = g.blk l
          · right
            by_cases h1 : o' < g.off l + i * k + o
            · exact .inl h1
            · right
              apply Nat.le_of_not_lt
              intro h2
              obtain ⟨j, hj, hp⟩ := hmine o' (Nat.le_of_not_lt h1) h2
              subst hbb
              rw [hp] at hf
              exact (v3 j hj).2.2 hf
          · exact .inl hbb),
        n := Nat.le_refl _, blk := fun _ _ => rfl, off := fun _ _ => rfl, k := fun _ _ => rfl, cap := fun _ _ => rfl,
        size := by rw [hwr.size]; exact Nat.le_refl _, os := hwr.os, tape := hwr.tape, output := hwr.output,
        keep := fun b' _ hb' => hwr.other b' (fun hx => hb' l hln hx.symm), newblk := fun l h1 h2 => absurd h2 (by omega) }
    refine ⟨w', hrun w' hst, ?_, hext⟩
    refine h.write hext hl (fun l' k1 es1 hne hl1 j hj => ?_) (fun l' o' hl1 => ?_) (by simpa using v1) (fun z hz => ?_) (fun j => if j = i then c' else c j) (fun j z hz => ?_) (fun j hj => ?_)
    · refine ⟨hwr.cell ?_, hwr.frozen⟩
      by_cases hbb : g.blk l' = g.blk l
      · right
        by_cases h1 : g.off l' + j < g.off l + i * k + o
        · exact .inl h1
        · right
          apply Nat.le_of_not_lt
          intro h2
          obtain ⟨j', hj', hp⟩ := hmine _ (Nat.le_of_not_lt h1) h2
          exact h.disj l' l k1 _ es1 es hl1 hl hne j j' hj hj' ⟨hbb, hp⟩
      · exact .inl hbb
    · obtain ⟨r1, r2⟩ := h.raw l' o' hl1
      refine hwr.other _ (fun hbb => ?_)
      rw [hbb, hb1] at r1
      cases r1
      simp [Obj.isCells] at r2
    · rcases List.mem_or_eq_of_mem_set hz with hz | rfl
      · exact h.nt _ _ _ hl z hz
      · exact n2
    · rw [List.getElem?_set] at hz
      split at hz
      · rename_i hij; subst hij
        simp [hi] at hz; subst hz
        simp only [if_true]
        refine ⟨n1, by rw [n3, h3], fun j z hz => ?_⟩
        have hjk : j < k := by rw [← n3]; exact (Array.getElem?_eq_some_iff.1 hz).1
        rw [h3]
        by_cases hj : o ≤ j ∧ j < o + e.size
        · have := hgot (j - o) z (by rw [Array.getElem?_toList]; exact (n5 j z hz).1 hj.1 hj.2)
          rwa [show g.off l + i * k + o + (j - o) = g.off l + i * k + j by omega] at this
        · rw [hwr.cell (.inr (by omega))]
          have := h5 j z ((n5 j z hz).2 (by omega))
          rwa [h3] at this
      · rename_i hij
        rw [if_neg (Ne.symm hij)]
        obtain ⟨a1, a2, a3⟩ := hc j z hz
        refine ⟨a1, a2, fun p q hq => ?_⟩
        have hp : p < k := by rw [← h3, ← a2]; exact (Array.getElem?_eq_some_iff.1 hq).1
        rw [hwr.cell]
        · exact a3 p q hq
        · right
          rw [h3]
          rcases Nat.lt_or_ge j i with hlt | hge
          · left
            have : (j + 1) * k ≤ i * k := Nat.mul_le_mul_right _ (by omega)
            rw [Nat.add_mul, Nat.one_mul] at this
            omega
          · right
            have : (i + 1) * k ≤ j * k := Nat.mul_le_mul_right _ (by omega)
            rw [Nat.add_mul, Nat.one_mul] at this
            omega
    · obtain ⟨a1, a2, a3⟩ := v3 j hj
      exact ⟨by rw [hwr.isSome]; exact a1, by rw [hwr.frozen]; exact a2⟩

/-- **A new variable.** -/
theorem newVar_sound (h : SR g w H) {t : TypeId} {x : V} {v : Value} (hx : Rep g w x v) (hn : noTup x = true) :
    ∃ w' g', (newVar t v).run P w = .ok ⟨w.heap.size, 0, none⟩ w' ∧ Rep g' w' (.lp H.length 0 0) (.pointer (some ⟨w.heap.size, 0, none⟩)) ∧ SR g' w' (H ++ [.vec x.cells.length [x]]) ∧ Ext g w g' w' := by
  have hcl := hx.cellsL hn
  obtain ⟨h1, h2, _, h4⟩ := h.newVec (t := t) (cs := v.cells) (k := x.cells.length) (cap := 1) (xs := [x]) (fun _ => v) (fun i y hy => by
    cases i with
    | zero => simp at hy; subst hy; exact ⟨hx, hcl.1.symm, fun j z hz => by simpa using hz⟩
    | succ i => simp at hy) (by rw [← hcl.1]; simp) (by simp) (by simpa using hn)
  exact ⟨_, _, rfl, h4, h1, h2⟩

end Go.Abs
