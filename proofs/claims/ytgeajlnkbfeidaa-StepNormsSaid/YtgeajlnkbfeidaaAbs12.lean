/- Append. -/
import Derived.Test.YtgeajlnkbfeidaaAbs11
import Derived.Laws.Append
namespace Go.Abs
open Go Go.RowKit

variable {P : Program} {tt : TT} {g : Gh} {w : World} {H : Heap}

/-- A row of cells that hold elements. -/
structure CellsOf (g : Gh) (w : World) (k : Nat) (ys : List V) (cs : List Value) : Prop where
  len : cs.length = ys.length * k
  rep : ∃ c : Nat → Value, ∀ (i : Nat) y, ys[i]? = some y → Rep g w y (c i) ∧ (c i).cells.size = k ∧ ∀ (j : Nat) z, (c i).cells[j]? = some z → cs[i * k + j]? = some z
  one : ∀ z ∈ cs, one z = true

theorem cellsOf_mem {k : Nat} {ys : List V} {b o : Nat} (c : Nat → Value) (h : ∀ (i : Nat) y, ys[i]? = some y → Rep g w y (c i) ∧ (c i).cells.size = k ∧ Holds w b (o + i * k) (c i))
    (hn : ∀ y ∈ ys, noTup y = true) :
    ∃ cs, CellsOf g w k ys cs ∧ ∀ (j : Nat) z, cs[j]? = some z → w.cell? ⟨b, o + j, none⟩ = some z := by
  have at_ : ∀ p, p < ys.length * k → ∃ i j z, i < ys.length ∧ j < k ∧ p = i * k + j ∧ (c i).cells[j]? = some z ∧ w.cell? ⟨b, o + p, none⟩ = some z := by
    intro p hp
    have hk : 0 < k := by
      rcases Nat.eq_zero_or_pos k with h0 | h0
      · subst h0; simp at hp
      · exact h0
    have hi : p / k < ys.length := (Nat.div_lt_iff_lt_mul hk).2 hp
    have hy := List.getElem?_eq_getElem hi
    obtain ⟨_, h2, h3⟩ := h _ _ hy
    have hj : p % k < (c (p / k)).cells.size := by rw [h2]; exact Nat.mod_lt _ hk
    have hz := Array.getElem?_eq_getElem hj
    have he : p = p / k * k + p % k := by rw [Nat.mul_comm]; exact (Nat.div_add_mod p k).symm
    refine ⟨p / k, p % k, _, hi, Nat.mod_lt _ hk, he, hz, ?_⟩
    have := h3 _ _ hz
    rw [Nat.add_assoc, ← he] at this
    exact this
  refine ⟨(List.range (ys.length * k)).map fun p => (w.cell? ⟨b, o + p, none⟩).getD undef, ⟨by simp, ⟨c, fun i y hy => ⟨(h i y hy).1, (h i y hy).2.1, fun j z hz => ?_⟩⟩, fun z hz => ?_⟩, fun j z hz => ?_⟩
  · have hi : i < ys.length := (List.getElem?_eq_some_iff.1 hy).1
    have hj : j < k := by rw [← (h i y hy).2.1]; exact (Array.getElem?_eq_some_iff.1 hz).1
    have hlt : i * k + j < ys.length * k := by
      have : (i + 1) * k ≤ ys.length * k := Nat.mul_le_mul_right _ (by omega)
      rw [Nat.add_mul, Nat.one_mul] at this
      omega
    have := (h i y hy).2.2 j z hz
    rw [Nat.add_assoc] at this
    simp [hlt, this]
  · simp only [List.mem_map, List.mem_range] at hz
    obtain ⟨p, hp, rfl⟩ := hz
    obtain ⟨i, j, z, hi, hj, he, hz, hc⟩ := at_ p hp
    rw [hc]
    have hy := List.getElem?_eq_getElem hi
    exact (((h i _ hy).1.cellsL (hn _ (List.getElem_mem hi))).2.2 j z hz)
  · simp only [List.getElem?_map, Option.map_eq_some_iff, List.getElem?_range] at hz
    obtain ⟨p, hp, rfl⟩ := hz
    have hlt : j < ys.length * k := by
      rcases Nat.lt_or_ge j (ys.length * k) with h' | h'
      · exact h'
      · simp [List.getElem?_eq_none (l := List.range (ys.length * k)) (by simpa using h')] at hp
    have : p = j := by
      rw [List.getElem?_range hlt] at hp; simpa using hp.symm
    subst this
    obtain ⟨i, j', z, hi, hj, he, hz, hc⟩ := at_ p hlt
    rw [hc]; rfl

/-- What is appended, as the machine has it. -/
theorem appX_cells {k : Nat} {x : V} {vx : Value} {ys : List V} (h : SR g w H) (hx : Rep g w x vx) (hy : appX k H x = some ys) :
    ∃ (b : Option Addr) (cap : Nat) (cs : List Value), vx = .slice b ys.length cap ∧ CellsOf g w k ys cs ∧ (∀ y ∈ ys, noTup y = true) ∧
      ∀ w1 : World, (∀ a, w1.cell? a = w.cell? a) → (Builtin.firstCells k ys.length vx).run P w1 = .ok cs.toArray w1 := by
  have fin : ∀ {b o cap : Nat} (c : Nat → Value), (∀ (i : Nat) y, ys[i]? = some y → Rep g w y (c i) ∧ (c i).cells.size = k ∧ Holds w b (o + i * k) (c i)) → (∀ y ∈ ys, noTup y = true) → vx = .slice (some ⟨b, o, none⟩) ys.length cap →
      ∃ (b : Option Addr) (cap : Nat) (cs : List Value), vx = .slice b ys.length cap ∧ CellsOf g w k ys cs ∧ (∀ y ∈ ys, noTup y = true) ∧
        ∀ w1 : World, (∀ a, w1.cell? a = w.cell? a) → (Builtin.firstCells k ys.length vx).run P w1 = .ok cs.toArray w1 := by
    intro b o cap c hc hn hv
    obtain ⟨cs, h1, h2⟩ := cellsOf_mem c hc hn
    refine ⟨_, _, cs, hv, h1, hn, fun w1 hw1 => ?_⟩
    rw [hv]
    exact run_firstCells_some (P := P) w1 k ys.length _ _ _ cs h1.len (fun j z hz => by rw [addr_add, hw1]; exact h2 j z hz)
  have fin0 : ∀ {a : Option Addr} {cap : Nat}, ys = [] → vx = .slice a 0 cap → ∃ (b : Option Addr) (cap : Nat) (cs : List Value), vx = .slice b ys.length cap ∧ CellsOf g w k ys cs ∧ (∀ y ∈ ys, noTup y = true) ∧
        ∀ w1 : World, (∀ a, w1.cell? a = w.cell? a) → (Builtin.firstCells k ys.length vx).run P w1 = .ok cs.toArray w1 := by
    rintro a cap rfl rfl
    refine ⟨a, cap, [], rfl, ⟨by simp, ⟨fun _ => undef, by simp⟩, by simp⟩, by simp, fun w1 _ => ?_⟩
    cases a <;> simp [Builtin.firstCells, loadCells, loadCellsFrom]
  cases x with
  | sl z n el =>
    simp only [appX] at hy
    split at hy
    · rename_i hso
      simp at hy; subst hy
      cases hx with
      | sl0 => exact fin0 rfl rfl
      | sl n el b o kk cap c h1 h2 h3 h4 h5 h6 =>
        by_cases hn0 : n = 0
        · subst hn0; exact fin0 rfl rfl
        · have hk : kk = k := by rw [← (szOk_spec hso).2, ← h2 0 (by omega), ((h1 0 (by omega)).cellsL (szOk_spec hso).1).1]
          subst hk
          refine fin (b := b) (o := o) (cap := cap) c (fun i y hi => ?_) (fun y hy => ?_) (by simp)
          · simp only [List.getElem?_map, Option.map_eq_some_iff] at hi
            obtain ⟨j, hj, rfl⟩ := hi
            have hlt : i < n := by have := (List.getElem?_eq_some_iff.1 hj).1; simpa using this
            rw [List.getElem?_range hlt] at hj; cases hj
            exact ⟨h1 i hlt, h2 i hlt, h3 i hlt⟩
          · simp only [List.mem_map, List.mem_range] at hy
            obtain ⟨j, hj, rfl⟩ := hy
            exact h6 j hj
    · simp at hy
  | msl k0 l i n =>
    simp only [appX] at hy
    split at hy
    · rename_i k' es hl
      split at hy
      · rename_i hb
        simp only [Bool.and_eq_true] at hb
        have hle : i + n ≤ es.length := Nat.le_of_ble_eq_true hb.1.1
        have hk : k' = k := Nat.eq_of_beq_eq_true hb.1.2
        have hk0 : k0 = k := Nat.eq_of_beq_eq_true hb.2
        subst hk0
        subst hk
        simp at hy; subst hy
        obtain ⟨v1, ⟨c, hc⟩, v3⟩ := h.vec l k' es hl
        have hkk := h.kk l k' es hl
        have hlen : ((es.drop i).take n).length = n := by simp; omega
        cases hx with
        | msl0 => exact fin0 (by simp) rfl
        | msl l i n hln hcap =>
          refine fin (b := g.blk l) (o := g.off l + i * g.k l) (cap := g.cap l - i) (fun j => c (i + j)) (fun j y hj => ?_) (fun y hy => ?_) (by rw [hlen])
          · have hj' : es[i + j]? = some y := by
              rw [List.getElem?_take] at hj
              split at hj
              · rwa [List.getElem?_drop] at hj
              · cases hj
            obtain ⟨a1, a2, a3⟩ := hc _ _ hj'
            refine ⟨a1, by rw [a2, hkk], ?_⟩
            rw [← hkk, Nat.add_assoc, ← Nat.add_mul]
            exact a3
          · exact h.nt l _ es hl y (List.mem_of_mem_drop (List.mem_of_mem_take hy))
      · simp at hy
    · simp at hy
  | _ => simp [appX] at hy

theorem CellsOf.append {k : Nat} {xs ys : List V} {cs ds : List Value} (h1 : CellsOf g w k xs cs) (h2 : CellsOf g w k ys ds) : CellsOf g w k (xs ++ ys) (cs ++ ds) := by
  obtain ⟨c1, r1⟩ := h1.rep
  obtain ⟨c2, r2⟩ := h2.rep
  refine ⟨by simp [h1.len, h2.len, Nat.add_mul], ⟨fun i => if i < xs.length then c1 i else c2 (i - xs.length), fun i y hy => ?_⟩, fun z hz => ?_⟩
  · by_cases hi : i < xs.length
    · rw [List.getElem?_append_left hi] at hy
      obtain ⟨a1, a2, a3⟩ := r1 i y hy
      simp only [hi, if_true]
      refine ⟨a1, a2, fun j z hz => ?_⟩
      have := a3 j z hz
      rw [List.getElem?_append_left (List.getElem?_eq_some_iff.1 this).1]
      exact this
    · rw [List.getElem?_append_right (by omega)] at hy
      obtain ⟨a1, a2, a3⟩ := r2 _ y hy
      simp only [hi, if_false]
      refine ⟨a1, a2, fun j z hz => ?_⟩
      have h3 := a3 j z hz
      have hge : cs.length ≤ i * k + j := by
        rw [h1.len]
        have : xs.length * k ≤ i * k := Nat.mul_le_mul_right _ (by omega)
        omega
      rw [List.getElem?_append_right hge]
      have he : i * k + j - cs.length = (i - xs.length) * k + j := by
        rw [h1.len, Nat.sub_mul]
        have : xs.length * k ≤ i * k := Nat.mul_le_mul_right _ (by omega)
        omega
      rw [he]; exact h3
  · rcases List.mem_append.1 hz with hz | hz
    · exact h1.one z hz
    · exact h2.one z hz

theorem size_zeroCells' (z : Array Value) (n : Nat) : (Builtin.zeroCells z n).size = n * z.size := by simp [Builtin.zeroCells]

/-- A new block with elements, behind a draw. -/
theorem newVec_cells (h : SR g w H) {t : TypeId} {k m : Nat} {xs : List V} {cs : List Value} {rest : Array Value} (hc : CellsOf g w k xs cs) (hnt : ∀ x ∈ xs, noTup x = true) (hr : rest.size = m * k) :
    ∃ g', SR g' (w.alloc (.cells (cs.toArray ++ rest) t)) (H ++ [.vec k xs]) ∧ Ext g w g' (w.alloc (.cells (cs.toArray ++ rest) t)) ∧
      Rep g' (w.alloc (.cells (cs.toArray ++ rest) t)) (.msl k H.length 0 xs.length) (.slice (some ⟨w.heap.size, 0, none⟩) xs.length (xs.length + m)) := by
  obtain ⟨c, r⟩ := hc.rep
  obtain ⟨h1, h2, h3, _⟩ := h.newVec (t := t) (cs := cs.toArray ++ rest) (k := k) (cap := xs.length + m) (xs := xs) c
    (fun i x hx => ⟨(r i x hx).1, (r i x hx).2.1, fun j y hy => by
      have := (r i x hx).2.2 j y hy
      rw [Array.getElem?_append_left (by simpa using (List.getElem?_eq_some_iff.1 this).1)]
      simpa using this⟩)
    (by simp [hr, hc.len, Nat.mul_comm k, Nat.add_mul]) (by omega) hnt
  exact ⟨_, h1, h2, h3⟩

/-- What an append grows to, on the machine. -/
theorem run_append_new {t t' ty e : TypeId} {te : TyE} {e' : TypeId} (htt : TTok P tt) (hu : P.underlying t = some (.slice e)) (hu' : P.underlying t' = some (.slice e')) (hte : tt e = some te) {zv : Value}
    (hz : ∀ w, (zeroValue e).run P w = .ok zv w) {base : Option Addr} {sLen sCap m : Nat} {b : Option Addr} {cap : Nat} {olds news : List Value}
    (ho : ∀ w1 : World, (∀ a, w1.cell? a = w.cell? a) → (Builtin.firstCells te.size sLen (.slice base sLen sCap)).run P w1 = .ok olds.toArray w1)
    (hn : ∀ w1 : World, (∀ a, w1.cell? a = w.cell? a) → (Builtin.firstCells te.size m (.slice b m cap)).run P w1 = .ok news.toArray w1)
    (hg : sCap < sLen + m) (h63 : ((sLen + m : Nat) : Int) ≤ 9223372036854775807) (hfit : (sLen + m) * te.bytes ≤ 140737488355328) :
    (Builtin.append_ #[t, t'] ty #[.slice base sLen sCap, .slice b m cap]).run P w =
      .ok (.slice (some ⟨w.heap.size, 0, none⟩) (sLen + m) (grownCap w (sLen + m) sCap e))
        (w.drew.alloc (.cells ((olds ++ news).toArray ++ Builtin.zeroCells zv.cells (grownCap w (sLen + m) sCap e - (sLen + m))) e)) := by
  have hcap := growslice_fits hg hfit
  obtain ⟨⟨i, hi, hs, hb, _⟩, _⟩ := htt.facts hte
  have hsz := run_sizeOf' (P := P) (htt.facts hte)
  have hti : ∀ w, (typeInfo e).run P w = .ok i w := fun w => by simp [typeInfo, hi]
  have h1 : ¬ (sLen + m ≤ sCap) := by omega
  have hmax : IntKind.i64.max = 9223372036854775807 := rfl
  have h2 : ¬ (((sLen + m : Nat) : Int) > IntKind.i64.max ∧ (False ∨ i.bytes = 0)) := fun ⟨a, _⟩ => by rw [hmax] at a; omega
  have h3 : ¬ (Builtin.nextslicecap (sLen + m) sCap * i.bytes > 2 ^ 48) := by rw [hb]; omega
  have ho' := ho w.drew (fun _ => rfl)
  have hn' := hn w.drew (fun _ => rfl)
  have h2' : ¬ ((9223372036854775807 : Int) < (sLen : Int) + (m : Int)) := by omega
  have h3' : ¬ (281474976710656 < Builtin.nextslicecap (sLen + m) sCap * i.bytes) := by omega
  have hz' := hz w.drew
  simp [Builtin.append_, run_underlying hu, run_underlying hu', hsz, hti, Builtin.lenOf, h1, h2', h3', Question.forced, ho', hn', hz', newRow, grownCap]
  rw [show (olds ++ news).toArray = olds.toArray ++ news.toArray by simp, Array.append_assoc]

theorem run_append_fit {t t' ty e : TypeId} {te : TyE} {e' : TypeId} (htt : TTok P tt) (hu : P.underlying t = some (.slice e)) (hu' : P.underlying t' = some (.slice e')) (hte : tt e = some te)
    {base : Option Addr} {sLen sCap m : Nat} {b : Option Addr} {cap : Nat} {news : List Value}
    (hn : (Builtin.firstCells te.size m (.slice b m cap)).run P w = .ok news.toArray w) (hg : sLen + m ≤ sCap) {w' : World}
    (hst : ∀ a, base = some a → (storeCells (a.add (sLen * te.size)) news).run P w = .ok () w') (hst0 : base = none → w' = w) :
    (Builtin.append_ #[t, t'] ty #[.slice base sLen sCap, .slice b m cap]).run P w = .ok (.slice base (sLen + m) sCap) w' := by
  have hsz := run_sizeOf' (P := P) (htt.facts hte)
  cases base with
  | none =>
    cases hst0 rfl
    simp [Builtin.append_, run_underlying hu, run_underlying hu', hsz, Builtin.lenOf, hg, hn]
  | some a =>
    have := hst a rfl
    simp [Builtin.append_, run_underlying hu, run_underlying hu', hsz, Builtin.lenOf, hg, hn, this]

theorem length_of_mapped {xs : List V} {ys : List V} : (xs ++ ys).length = xs.length + ys.length := List.length_append

/-- **Append.** -/
theorem append_sound (htt : TTok P tt) (h : SR g w H) {t t' ty e e' : TypeId} {te : TyE} (hu : P.underlying t = some (.slice e)) (hu' : P.underlying t' = some (.slice e')) (hte : tt e = some te)
    (hz0 : szOk te.zero te.size = true) {s x : V} {vs vx : Value} {es ys : List V} (hs : Rep g w s vs) (hx : Rep g w x vx) (he : appS te.size H s = some es) (hy : appX te.size H x = some ys)
    (hb : (es.length + ys.length) * te.bytes ≤ 140737488355328) (h63 : es.length + ys.length ≤ 9223372036854775807) :
    ∃ v w' g', (Builtin.append_ #[t, t'] ty #[vs, vx]).run P w = .ok v w' ∧ Rep g' w' (.msl te.size H.length 0 (es.length + ys.length)) v ∧ SR g' w' (appH te.size H s (es ++ ys)) ∧ Ext g w g' w' := by
  obtain ⟨b, cap, news, rfl, hnews, hnt, hrun⟩ := appX_cells h hx hy
  obtain ⟨⟨i, hi, _, _, zv, hzi, hzv⟩, _⟩ := htt.facts hte
  have hz : ∀ w, (zeroValue e).run P w = .ok zv w := fun w => by simp [zeroValue, typeInfo, hi, hzi]
  have hzs : zv.cells.size = te.size := by
    have hzr : Rep g w te.zero zv := ofConst_rep hzv
    rw [← (hzr.cellsL (szOk_spec hz0).1).1, (szOk_spec hz0).2]
  have h63' : ((es.length + ys.length : Nat) : Int) ≤ 9223372036854775807 := by omega
  -- a new block
  have fresh : ∀ {H0 : Heap} {base : Option Addr} {sCap : Nat} {olds : List Value}, SR g w H0 → H0.length = H.length → vs = .slice base es.length sCap → CellsOf g w te.size es olds → (∀ y ∈ es, noTup y = true) → sCap < es.length + ys.length →
      (∀ w1 : World, (∀ a, w1.cell? a = w.cell? a) → (Builtin.firstCells te.size es.length (.slice base es.length sCap)).run P w1 = .ok olds.toArray w1) → H0 ++ [.vec te.size (es ++ ys)] = appH te.size H s (es ++ ys) →
      ∃ v w' g', (Builtin.append_ #[t, t'] ty #[vs, .slice b ys.length cap]).run P w = .ok v w' ∧ Rep g' w' (.msl te.size H.length 0 (es.length + ys.length)) v ∧ SR g' w' (appH te.size H s (es ++ ys)) ∧ Ext g w g' w' := by
    intro H0 base sCap olds h0 hlen hv holds hnto hg ho hH
    subst hv
    have hr := run_append_new (t := t) (t' := t') (ty := ty) htt hu hu' hte hz ho hrun hg h63' hb
    obtain ⟨d1, d2⟩ := h0.drew
    have hcells : CellsOf g w.drew te.size (es ++ ys) (olds ++ news) := by
      have := holds.append hnews
      obtain ⟨c, r⟩ := this.rep
      exact ⟨this.len, ⟨c, fun i y hy => ⟨(r i y hy).1.ext d2.toExt0, (r i y hy).2⟩⟩, this.one⟩
    obtain ⟨g', q1, q2, q3⟩ := newVec_cells (t := e) (m := grownCap w (es.length + ys.length) sCap e - (es.length + ys.length)) d1 hcells (fun x hx => (List.mem_append.1 hx).elim (hnto x) (hnt x)) (rest := Builtin.zeroCells zv.cells (grownCap w (es.length + ys.length) sCap e - (es.length + ys.length)))
      (by rw [size_zeroCells', hzs])
    rw [hH] at q1
    rw [hlen, List.length_append] at q3
    refine ⟨_, _, g', hr, ?_, q1, d2.trans q2⟩
    have hge : es.length + ys.length ≤ grownCap w (es.length + ys.length) sCap e := Nat.le_add_right _ _
    rw [show es.length + ys.length + (grownCap w (es.length + ys.length) sCap e - (es.length + ys.length)) = grownCap w (es.length + ys.length) sCap e by omega] at q3
    exact q3
  -- nothing, of no room
  have empty : ∀ {H0 : Heap} {base : Option Addr}, SR g w H0 → H0.length = H.length → vs = .slice base 0 0 → es = [] → ys = [] → H0 ++ [.vec te.size (es ++ ys)] = appH te.size H s (es ++ ys) →
      ∃ v w' g', (Builtin.append_ #[t, t'] ty #[vs, .slice b ys.length cap]).run P w = .ok v w' ∧ Rep g' w' (.msl te.size H.length 0 (es.length + ys.length)) v ∧ SR g' w' (appH te.size H s (es ++ ys)) ∧ Ext g w g' w' := by
    intro H0 base h0 hlen hv he0 hy0 hH
    subst hv; subst he0; subst hy0
    have hn0 := hrun w (fun _ => rfl)
    have hnews0 : news = [] := by have := hnews.len; simpa using this
    subst hnews0
    have hr := run_append_fit (t := t) (t' := t') (ty := ty) (sLen := 0) (sCap := 0) htt hu hu' hte (base := base) hn0 (by simp) (w' := w) (fun a _ => rfl) (fun _ => rfl)
    have h2 := h0.more (b := w.heap.size) (o := 0) (k := te.size) (cap := 0) (xs := []) (by simp) (by simp) (fun _ => undef) (by simp) (by simp) (fun _ _ _ _ _ _ _ hj => by simp at hj)
    refine ⟨_, w, g.more w.heap.size 0 te.size 0, hr, ?_, ?_, (Ext.refl g w).more (.inl (Nat.le_refl _))⟩
    · rw [← hlen, h0.len]
      have := Rep.msl0 (g := g.more w.heap.size 0 te.size 0) (w := w) g.n 0 base (Nat.lt_succ_self _) (by simp [Gh.more, upd_same])
      simpa [Gh.more, upd_same] using this
    · rw [← hH]; exact h2
  cases s with
  | sl z n el =>
    cases z with
    | false => simp [appS] at he
    | true =>
      simp [appS] at he; subst he
      obtain ⟨a, cap0, rfl, hn, hz1⟩ := hs.slE
      cases hz1 rfl
      have hn : n = 0 := by omega
      subst hn
      by_cases hy0 : ys = []
      · exact empty h rfl rfl rfl hy0 rfl
      · refine fresh h rfl rfl ⟨by simp, ⟨fun _ => undef, by simp⟩, by simp⟩ (by simp) ?_ (fun w1 _ => ?_) rfl (olds := [])
        · have : 0 < ys.length := List.length_pos_iff.2 hy0
          simpa using this
        · cases a <;> simp [Builtin.firstCells, loadCells, loadCellsFrom]
  | msl k0 l i n =>
    cases i with
    | succ i => simp [appS] at he
    | zero =>
      simp only [appS] at he
      split at he
      · rename_i k' es' hl
        split at he
        · rename_i hbb
          simp at he; subst he
          simp only [Bool.and_eq_true] at hbb
          have hnn : es'.length = n := Nat.eq_of_beq_eq_true hbb.1.1
          have hk : k' = te.size := Nat.eq_of_beq_eq_true hbb.1.2
          have hk0 : k0 = te.size := Nat.eq_of_beq_eq_true hbb.2
          subst hk
          subst hk0
          subst hnn
          obtain ⟨v1, ⟨c, hc⟩, v3⟩ := h.vec l _ es' hl
          have hkk := h.kk l _ es' hl
          have hln : l < g.n := by rw [← h.len]; exact (List.getElem?_eq_some_iff.1 hl).1
          have hkill := h.kill l
          have hnto := h.nt l _ es' hl
          have small : g.cap l = 0 → ∀ base, vs = .slice base 0 0 → ∃ v w' g', (Builtin.append_ #[t, t'] ty #[vs, .slice b ys.length cap]).run P w = .ok v w' ∧ Rep g' w' (.msl te.size H.length 0 (es'.length + ys.length)) v ∧ SR g' w' (appH te.size H (.msl te.size l 0 es'.length) (es' ++ ys)) ∧ Ext g w g' w' := by
            intro hc0 base hv
            have he0 : es' = [] := List.length_eq_zero_iff.1 (by omega)
            by_cases hy0 : ys = []
            · exact empty hkill (by simp) hv he0 hy0 rfl
            · refine fresh hkill (by simp) (by rw [he0]; exact hv) (by rw [he0]; exact ⟨by simp, ⟨fun _ => undef, by simp⟩, by simp⟩) (by simp [he0]) ?_ (fun w1 _ => ?_) rfl (olds := [])
              · have : 0 < ys.length := List.length_pos_iff.2 hy0
                simp [he0]; omega
              · rw [he0]; cases base <;> simp [Builtin.firstCells, loadCells, loadCellsFrom]
          have hvs : (∃ base, g.cap l = 0 ∧ vs = .slice base 0 0) ∨ vs = .slice (some ⟨g.blk l, g.off l, none⟩) es'.length (g.cap l) := by
            obtain ⟨_, _, ⟨_, hv⟩ | ⟨h0, hc0, a, hv⟩⟩ := hs.mslE
            · right; simpa using hv
            · exact .inl ⟨a, hc0, hv⟩
          rcases hvs with ⟨base, hc0, hv⟩ | hv
          · exact small hc0 base hv
          · obtain ⟨olds, ho1, ho2⟩ := cellsOf_mem (b := g.blk l) (o := g.off l) c (fun i y hy => by
              have := hc i y hy; rw [hkk] at this; exact this) hnto
            have hfirst : ∀ w1 : World, (∀ a, w1.cell? a = w.cell? a) → (Builtin.firstCells te.size es'.length (.slice (some ⟨g.blk l, g.off l, none⟩) es'.length (g.cap l))).run P w1 = .ok olds.toArray w1 :=
              fun w1 hw1 => run_firstCells_some (P := P) w1 te.size es'.length _ _ _ olds ho1.len (fun j z hz => by rw [addr_add, hw1]; exact ho2 j z hz)
            by_cases hg : g.cap l < es'.length + ys.length
            · exact fresh hkill (by simp) hv ho1 hnto hg hfirst rfl
            · -- in place
              have hroom : es'.length + ys.length ≤ g.cap l := Nat.le_of_not_lt hg
              by_cases hk0 : te.size * g.cap l = 0
              · -- no cells at all
                have hnews0 : news = [] := by
                  have h1 := hnews.len
                  have : ys.length * te.size ≤ g.cap l * te.size := Nat.mul_le_mul_right _ (by omega)
                  rw [Nat.mul_comm (g.cap l)] at this
                  exact List.length_eq_zero_iff.1 (by omega)
                subst hnews0
                have hr := run_append_fit (t := t) (t' := t') (ty := ty) (sLen := es'.length) (sCap := g.cap l) htt hu hu' hte (base := some ⟨g.blk l, g.off l, none⟩) (hrun w (fun _ => rfl)) hroom (w' := w) (fun a _ => rfl) (fun hx => by cases hx)
                obtain ⟨c1, r1⟩ := (ho1.append hnews).rep
                have hk00 : ∀ (i : Nat) y, (es' ++ ys)[i]? = some y → te.size = 0 := fun i y hy => by
                  have := (List.getElem?_eq_some_iff.1 hy).1
                  rw [List.length_append] at this
                  rcases Nat.mul_eq_zero.1 hk0 with h0 | h0
                  · exact h0
                  · omega
                have h2 := hkill.more (b := g.blk l) (o := g.off l) (k := te.size) (cap := g.cap l) (xs := es' ++ ys) (by simpa using hroom) (fun x hx => (List.mem_append.1 hx).elim (hnto x) (hnt x)) c1
                  (fun i x hx => ⟨(r1 i x hx).1, (r1 i x hx).2.1, fun j y hy => by
                    have h0 := hk00 i x hx
                    have := (Array.getElem?_eq_some_iff.1 hy).1
                    rw [(r1 i x hx).2.1, h0] at this
                    omega⟩)
                  (fun j hj => by rw [hk0] at hj; omega) (fun _ _ _ _ _ _ _ hj => by rw [hk0] at hj; omega)
                refine ⟨_, w, g.more (g.blk l) (g.off l) te.size (g.cap l), by rw [hv]; exact hr, ?_, h2, (Ext.refl g w).more (.inr ⟨l, hln, rfl⟩)⟩
                have := Rep.msl (g := g.more (g.blk l) (g.off l) te.size (g.cap l)) (w := w) g.n 0 (es'.length + ys.length) (Nat.lt_succ_self _) (by simpa [Gh.more, upd_same] using hroom)
                rw [h.len]
                simpa [Gh.more, upd_same] using this
              · have hblk : ∃ cs0 t0 f0, w.heap[g.blk l]? = some (.cells cs0 t0 f0) ∧ g.off l + te.size * g.cap l ≤ cs0.size := by
                  have hlast := (v3 (g.k l * g.cap l - 1) (by rw [hkk]; omega)).1
                  obtain ⟨x, hx⟩ := Option.isSome_iff_exists.1 hlast
                  obtain ⟨cs0, t0, f0, a1, a2⟩ := cell?_spot0 hx
                  have := (Array.getElem?_eq_some_iff.1 a2).1
                  rw [hkk] at this
                  exact ⟨cs0, t0, f0, a1, by omega⟩
                obtain ⟨cs0, t0, f0, hb1, hb2⟩ := hblk
                have hnl : news.length = ys.length * te.size := hnews.len
                have hfits : es'.length * te.size + news.length ≤ te.size * g.cap l := by
                  rw [hnl, ← Nat.add_mul, Nat.mul_comm te.size]; exact Nat.mul_le_mul_right _ hroom
                obtain ⟨w', hst, hwr, hgot⟩ := run_storeCells' (P := P) news 0 w (b := g.blk l) (o := g.off l + es'.length * te.size) hb1 (by omega) (hnews.one) (fun j hj => by
                  have := (v3 (es'.length * te.size + j) (by rw [hkk]; omega)).2.1
                  simpa [Nat.add_assoc] using this)
                simp only [Nat.add_zero] at hwr hgot
                have hmine : ∀ p, g.off l + es'.length * te.size ≤ p → p < g.off l + es'.length * te.size + news.length → ∃ j, j < g.k l * g.cap l ∧ p = g.off l + j := fun p h1 h2 => ⟨p - g.off l, by rw [hkk]; omega, by omega⟩
                have e : Ext g w g w' :=
                  { fx := fun _ _ h => h, cell := fun b' o' hf => hwr.cell (by
                      by_cases hbb : b' = g.blk l
                      · right
                        by_cases h1 : o' < g.off l + es'.length * te.size
                        · exact .inl h1
                        · right
                          apply Nat.le_of_not_lt
                          intro h2
                          obtain ⟨j, hj, hp⟩ := hmine o' (Nat.le_of_not_lt h1) h2
                          subst hbb
                          rw [hp] at hf
                          exact (v3 j hj).2.2 hf
                      · exact .inl hbb),
                    n := Nat.le_refl _, blk := fun _ _ => rfl, off := fun _ _ => rfl, k := fun _ _ => rfl, cap := fun _ _ => rfl,
                    size := by rw [hwr.size]; exact Nat.le_refl _, os := hwr.os, tape := hwr.tape, output := hwr.output,
                    keep := fun b' _ hb' => hwr.other b' (fun hx => hb' l hln hx.symm), newblk := fun l h1 h2 => absurd h2 (by omega) }
                have hat : ∀ (l' : Nat) (ob : AObj), (H.set l AObj.dead)[l']? = some ob → ob ≠ AObj.dead → l' ≠ l ∧ H[l']? = some ob := by
                  intro l' ob hl' hne
                  have hlt : l < H.length := (List.getElem?_eq_some_iff.1 hl).1
                  by_cases heq : l' = l
                  · subst heq; rw [List.getElem?_set] at hl'; simp [hlt] at hl'; exact absurd hl'.symm hne
                  · exact ⟨heq, by rwa [List.getElem?_set_ne (Ne.symm heq)] at hl'⟩
                have h1 : SR g w' (H.set l .dead) := hkill.move e (fun l' k1 es1 hl1 j hj => by
                    obtain ⟨hne, hl2⟩ := hat l' _ hl1 (by simp)
                    refine ⟨hwr.cell ?_, hwr.frozen⟩
                    by_cases hbb : g.blk l' = g.blk l
                    · right
                      by_cases h1 : g.off l' + j < g.off l + es'.length * te.size
                      · exact .inl h1
                      · right
                        apply Nat.le_of_not_lt
                        intro h2
                        obtain ⟨j', hj', hp⟩ := hmine _ (Nat.le_of_not_lt h1) h2
                        exact h.disj l' l k1 _ es1 es' hl2 hl hne j j' hj hj' ⟨hbb, hp⟩
                    · exact .inl hbb) (fun l' o hl1 => by
                    obtain ⟨hne, hl2⟩ := hat l' _ hl1 (by simp)
                    obtain ⟨r1, r2⟩ := h.raw l' o hl2
                    refine hwr.other _ (fun hbb => ?_)
                    rw [hbb, hb1] at r1
                    cases r1
                    simp [Obj.isCells] at r2)
                have hr := run_append_fit (t := t) (t' := t') (ty := ty) (sLen := es'.length) (sCap := g.cap l) htt hu hu' hte (base := some ⟨g.blk l, g.off l, none⟩) (hrun w (fun _ => rfl)) hroom (w' := w')
                  (fun a ha => by cases ha; rw [addr_add]; exact hst) (fun hx => by cases hx)
                obtain ⟨c1, r1⟩ := (ho1.append hnews).rep
                have h2 := h1.more (b := g.blk l) (o := g.off l) (k := te.size) (cap := g.cap l) (xs := es' ++ ys) (by simpa using hroom) (fun x hx => (List.mem_append.1 hx).elim (hnto x) (hnt x)) c1
                  (fun i x hx => ⟨(r1 i x hx).1.ext e.toExt0, (r1 i x hx).2.1, fun j y hy => by
                    have h3 := (r1 i x hx).2.2 j y hy
                    rw [Nat.add_assoc]
                    by_cases hlt : i * te.size + j < olds.length
                    · rw [List.getElem?_append_left hlt] at h3
                      rw [hwr.cell (.inr (.inl (by rw [ho1.len] at hlt; omega)))]
                      exact ho2 _ _ h3
                    · rw [List.getElem?_append_right (by omega)] at h3
                      have := hgot _ _ h3
                      rw [ho1.len] at this hlt
                      rwa [show g.off l + es'.length * te.size + (i * te.size + j - es'.length * te.size) = g.off l + (i * te.size + j) by omega] at this⟩)
                  (fun j hj => by
                    obtain ⟨a1, a2, a3⟩ := v3 j (by rw [hkk]; exact hj)
                    exact ⟨by rw [hwr.isSome]; exact a1, by rw [hwr.frozen]; exact a2, a3⟩)
                  (fun l' k1 es1 hl1 j j' hj hj' => by
                    obtain ⟨hne, hl2⟩ := hat l' _ hl1 (by simp)
                    exact h.disj l' l k1 _ es1 es' hl2 hl hne j j' hj (by rw [hkk]; exact hj'))
                refine ⟨_, w', g.more (g.blk l) (g.off l) te.size (g.cap l), by rw [hv]; exact hr, ?_, h2, e.more (.inr ⟨l, hln, rfl⟩)⟩
                have := Rep.msl (g := g.more (g.blk l) (g.off l) te.size (g.cap l)) (w := w') g.n 0 (es'.length + ys.length) (Nat.lt_succ_self _) (by simpa [Gh.more, upd_same] using hroom)
                rw [h.len]
                simpa [Gh.more, upd_same] using this
        · simp at he
      · simp at he
  | _ => simp [appS] at he

end Go.Abs
