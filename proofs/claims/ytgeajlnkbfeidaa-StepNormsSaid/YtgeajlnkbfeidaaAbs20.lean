/- From what a row hands in to abstract values, and from a walk to a row. -/
import Derived.Test.YtgeajlnkbfeidaaAbs19
import Derived.ChangeArms
import Derived.ChangeShapes
import Derived.SizedLaws
import Derived.Below
namespace Go.Abs
open Go Go.RowKit

variable {P : Program} {H : Type} {enc : TypeId × Value → H} {w : World}

/-- All that is there is fixed; nothing is one's own. -/
def allFx (w : World) : Gh := { fx := fun b o => (w.cell? ⟨b, o, none⟩).isSome = true, n := 0, blk := fun _ => 0, off := fun _ => 0, k := fun _ => 0, cap := fun _ => 0 }

theorem allFx_sr (w : World) : SR (allFx w) w [] where
  len := rfl
  fxc _ _ h := h
  nt _ _ _ h := by simp at h
  kk _ _ _ h := by simp at h
  vec _ _ _ h := by simp at h
  raw _ _ h := by simp at h
  disj _ _ _ _ _ _ h := by simp at h
  rawd _ _ _ _ h := by simp at h

/-- Cells, one by one. -/
def RepCs (g : Gh) (w : World) (ys : List V) (cs : List Value) : Prop := ys.length = cs.length ∧ ∀ (i : Nat) y c, ys[i]? = some y → cs[i]? = some c → Rep g w y c ∧ one c = true

theorem RepCs.append {g : Gh} {ys zs : List V} {cs ds : List Value} (h : RepCs g w ys cs) (k : RepCs g w zs ds) : RepCs g w (ys ++ zs) (cs ++ ds) := by
  refine ⟨by simp [h.1, k.1], fun i y c hy hc => ?_⟩
  by_cases hi : i < ys.length
  · rw [List.getElem?_append_left hi] at hy
    rw [List.getElem?_append_left (by rw [← h.1]; exact hi)] at hc
    exact h.2 i y c hy hc
  · rw [List.getElem?_append_right (by omega)] at hy
    rw [List.getElem?_append_right (by rw [← h.1]; omega), ← h.1] at hc
    exact k.2 _ y c hy hc

theorem RepCs.val {g : Gh} {y : V} {cs : List Value} (hn : noTup y = true) (h : RepCs g w y.cells cs) : ∃ c, c.cells.toList = cs ∧ Rep g w y c := by
  have single : y.cells = [y] → ∃ c, c.cells.toList = cs ∧ Rep g w y c := by
    intro hy
    rw [hy] at h
    match cs, h.1 with
    | [c], _ =>
      obtain ⟨h1, h2⟩ := h.2 0 y c rfl rfl
      exact ⟨c, by rw [cells_of_one h2], h1⟩
  cases y with
  | agg ys =>
    refine ⟨.agg cs.toArray, rfl, .agg ys cs.toArray (by simpa [V.cells] using h.1) (fun i x y hx hy => (h.2 i x y hx (by simpa using hy)).1) (fun i y hy => ?_)⟩
    have hlt : i < ys.length := by
      rw [show ys.length = cs.length from h.1]
      have := (Array.getElem?_eq_some_iff.1 hy).1
      simpa using this
    exact (h.2 i _ y (List.getElem?_eq_getElem hlt) (by simpa using hy)).2
  | tup => simp [noTup] at hn
  | _ => exact single rfl

/-- What a type's cells are, as plain values. -/
def Opens (enc : TypeId × Value → H) (P : Program) (w : World) (t : TypeId) {α : Type} (e : α → V) (ok : α → Prop) : Prop :=
  ∀ fuel cs x, DataW.trod enc P w 0 (fun _ => true) true fuel t cs = some x → ∃ a : α, ok a ∧ RepCs (allFx w) w (e a).cells cs

theorem RepCs.one {g : Gh} {y : V} {c : Value} (h : Rep g w y c) (h1 : Abs.one c = true) : RepCs g w [y] [c] := by
  refine ⟨rfl, fun i a b ha hb => ?_⟩
  cases i with
  | zero => simp at ha hb; subst ha; subst hb; exact ⟨h, h1⟩
  | succ i => simp at ha

theorem opens_int {t : TypeId} {k : IntKind} (ht : P.underlying t = some (.int k)) : Opens enc P w t (eInt k) (fun n => (Lit.int k n).wf = true) := by
  intro fuel cs x h
  obtain ⟨n, rfl, hx, hw⟩ := DataW.trod_int ht h
  exact ⟨n, hw, .one (.lit _ rfl) rfl⟩

theorem opens_bool {t : TypeId} (ht : P.underlying t = some .bool) : Opens enc P w t eBool (fun _ => True) := by
  intro fuel cs x h
  obtain ⟨n, rfl, hx⟩ := DataW.trod_bool ht h
  exact ⟨n, trivial, .one (.lit _ rfl) rfl⟩

theorem opens_string {t : TypeId} (ht : P.underlying t = some .string) : Opens enc P w t eStr (fun s => s.size ≤ maxLen) := by
  intro fuel cs x h
  obtain ⟨s, rfl, hx, hw⟩ := DataW.trod_string ht h
  exact ⟨s, hw, .one (.lit _ rfl) rfl⟩

/-! ### Structs: their fields, one after another -/

/-- The fields from a place on. -/
def OpensF (enc : TypeId × Value → H) (P : Program) (w : World) (fs : List Field) (o : Nat) {α : Type} (c : α → List V) (ok : α → Prop) : Prop :=
  ∀ n (xs : List (DataW H × List MemPlace)) (cs : List Value), xs.length = fs.length → (∀ (i : Nat) f, fs[i]? = some f → DataW.trod enc P w 0 (fun _ => true) true n f.type ((cs.drop f.offset).take (P.cellsOf f.type)) = xs[i]?) →
    ∀ len, cs.length = len → len = o + (fs.map fun f => P.cellsOf f.type).sum → ∃ a : α, ok a ∧ RepCs (allFx w) w (c a) (cs.drop o)

theorem opensF_nil {o : Nat} {α : Type} (a : α) : OpensF enc P w [] o (fun _ : α => []) (fun _ => True) := by
  intro n xs cs _ _ len hl hs
  refine ⟨a, trivial, ?_, by simp⟩
  simp at hs ⊢; omega

theorem opensF_cons {f : Field} {fs : List Field} {o : Nat} {α β γ : Type} {e : α → V} {ok : α → Prop} {c : β → List V} {okc : β → Prop} (mk : α → β → γ) {c' : γ → List V} {ok' : γ → Prop} (ho : f.offset = o) (hf : Opens enc P w f.type e ok) (hfs : OpensF enc P w fs (o + P.cellsOf f.type) c okc)
    (hc : ∀ a b, c' (mk a b) = (e a).cells ++ c b) (hk : ∀ a b, ok a → okc b → ok' (mk a b)) : OpensF enc P w (f :: fs) o c' ok' := by
  intro n xs cs hx hall len hl hs
  have h0 := hall 0 f rfl
  cases xs with
  | nil => simp at hx
  | cons x xs =>
    simp only [List.getElem?_cons_zero] at h0
    obtain ⟨a, ha, hra⟩ := hf n _ x h0
    obtain ⟨b, hb, hrb⟩ := hfs n xs cs (by simpa using hx) (fun i g hg => by simpa using hall (i + 1) g (by simpa using hg)) len hl (by simp at hs ⊢; omega)
    refine ⟨mk a b, hk a b ha hb, ?_⟩
    rw [hc]
    have : cs.drop o = (cs.drop f.offset).take (P.cellsOf f.type) ++ cs.drop (o + P.cellsOf f.type) := by
      rw [ho, ← List.drop_drop, List.take_append_drop]
    rw [this]
    exact hra.append hrb

theorem opens_struct {t : TypeId} {fs : Array Field} {α : Type} {c : α → List V} {ok : α → Prop} (ht : P.underlying t = some (.struct fs)) (hs : P.cellsOf t = (fs.toList.map fun f => P.cellsOf f.type).sum) (h : OpensF enc P w fs.toList 0 c ok) : Opens enc P w t (fun a => .agg (c a)) ok := by
  intro fuel cs x hx
  obtain ⟨xs, n, rfl, _, hl, hlen, hall⟩ := DataW.trod_struct ht hx
  obtain ⟨a, ha, hr⟩ := h n xs cs (by simpa using hlen) (fun i f hf => hall i f (by simpa using hf)) _ hl (by omega)
  exact ⟨a, ha, by simpa [V.cells] using hr⟩

/-! ### Slices -/

theorem mapM_get {α β : Type} {f : α → Option β} : ∀ {l : List α} {r : List β}, l.mapM f = some r → r.length = l.length ∧ ∀ (i : Nat) x, l[i]? = some x → f x = r[i]?
  | [], r, h => by simp at h; subst h; simp
  | a :: l, r, h => by
    rw [List.mapM_cons] at h
    simp only [bind, Option.bind_eq_some_iff, pure, Option.some.injEq] at h
    obtain ⟨b, hb, r', hr, rfl⟩ := h
    obtain ⟨h1, h2⟩ := mapM_get hr
    refine ⟨by simp [h1], fun i x hx => ?_⟩
    cases i with
    | zero => simp at hx; subst hx; simpa using hb
    | succ i => simp at hx; simpa using h2 i x hx

theorem cells_at {a : Addr} {n : Nat} {cs : List Value} (h : w.cells? 0 a n = some cs) : cs.length = n ∧ ∀ j, j < n → w.cell? (a.add j) = cs[j]? := by
  unfold World.cells? at h
  simp only [Nat.zero_le, if_true] at h
  obtain ⟨h1, h2⟩ := mapM_get h
  exact ⟨by simpa using h1, fun j hj => h2 j j (by simp [hj])⟩

theorem add_none {a : Addr} (h : a.spot = none) (n : Nat) : a.add n = ⟨a.block, a.off + n, none⟩ := by
  unfold Addr.add
  split
  · rename_i h0; subst h0; cases a; simp_all
  · rfl

theorem cell_spot {a : Addr} {v : Value} (h : w.cell? a = some v) : a.spot = none := by
  unfold World.cell? at h
  split at h
  · split at h
    · cases h
    · rename_i hs; simpa using hs
  · cases h

/-- A slice's elements. -/
theorem open_slice {t e : TypeId} {α : Type} [Inhabited α] {en : α → V} {ok : α → Prop} {fuel : Nat} {cs : List Value} {x : DataW H × List MemPlace} (ht : P.underlying t = some (.slice e)) (hk : 0 < P.cellsOf e) (hc : ∀ a, (en a).cells.length = P.cellsOf e) (hn : ∀ a, noTup (en a) = true)
    (he : Opens enc P w e en ok) (h : DataW.trod enc P w 0 (fun _ => true) true fuel t cs = some x) :
    ∃ l : List α, (∀ a ∈ l, ok a) ∧ RepCs (allFx w) w [eL en l] cs ∧ l.length ≤ maxLen ∧ (l = [] ∨ ∃ es sp, x.1 = .slice es sp ∧ es.length = l.length) := by
  rcases DataW.trod_slice ht h with ⟨rfl, rfl⟩ | ⟨a, len, cap, elems, rest, n, _, rfl, rfl, _, hlc, hm, hlen, hel, _, _⟩
  · exact ⟨[], by simp, .one (.sl0 _ _ _ _ (by simp)) rfl, by simp, .inl rfl⟩
  · -- the elements
    have each : ∀ i, i < len → ∃ b : α, ok b ∧ ∃ c : Value, Rep (allFx w) w (en b) c ∧ c.cells.size = P.cellsOf e ∧ ∀ j, j < P.cellsOf e → w.cell? ((a.add (i * P.cellsOf e)).add j) = c.cells[j]? := by
      intro i hi
      have h1 := hel i hi
      rw [List.getElem?_eq_getElem (by omega)] at h1
      simp only [Option.bind_eq_some_iff] at h1
      obtain ⟨ds, hds, htr⟩ := h1
      obtain ⟨b, hb, hr⟩ := he n ds _ htr
      obtain ⟨c, hcc, hrep⟩ := hr.val (hn b)
      obtain ⟨l1, l2⟩ := cells_at hds
      refine ⟨b, hb, c, hrep, by rw [← Array.length_toList, hcc, l1], fun j hj => ?_⟩
      rw [l2 j hj, ← hcc]; simp
    have hspot : 0 < len → a.spot = none := by
      intro h0
      obtain ⟨b, _, c, _, hs, hcell⟩ := each 0 h0
      have h1 := hcell 0 hk
      simp only [Nat.zero_mul] at h1
      rw [Array.getElem?_eq_getElem (by omega)] at h1
      have : (a.add 0).add 0 = a := by simp [Addr.add]
      rw [this] at h1
      exact cell_spot h1
    let f : Nat → α := fun i => if h : i < len then Classical.choose (each i h) else default
    have hf : ∀ i (h : i < len), f i = Classical.choose (each i h) := fun i h => dif_pos h
    refine ⟨(List.range len).map f, ?_, ?_, by simp; omega, .inr ⟨_, _, rfl, by simp [hlen]⟩⟩
    · intro b hb
      obtain ⟨i, hi, rfl⟩ := List.mem_map.1 hb
      have hi : i < len := List.mem_range.1 hi
      rw [hf i hi]
      exact (Classical.choose_spec (each i hi)).1
    · refine .one ?_ rfl
      by_cases h0 : 0 < len
      · have hs := hspot h0
        let c : Nat → Value := fun i => if h : i < len then Classical.choose (Classical.choose_spec (each i h)).2 else default
        have hcc : ∀ i (h : i < len), c i = Classical.choose (Classical.choose_spec (each i h)).2 := fun i h => dif_pos h
        have spec : ∀ i, i < len → Rep (allFx w) w (en (f i)) (c i) ∧ (c i).cells.size = P.cellsOf e ∧ ∀ j, j < P.cellsOf e → w.cell? ((a.add (i * P.cellsOf e)).add j) = (c i).cells[j]? := by
          intro i hi
          rw [hf i hi, hcc i hi]
          exact Classical.choose_spec (Classical.choose_spec (each i hi)).2
        have addr : ∀ i j, (a.add (i * P.cellsOf e)).add j = ⟨a.block, a.off + i * P.cellsOf e + j, none⟩ := by
          intro i j
          rw [add_none hs, add_none rfl]
        have hl : ((List.range len).map f).length = len := by simp
        have hgd : ∀ i, i < len → ((List.range len).map f).getD i default = f i := by
          intro i hi
          simp [List.getD_eq_getElem?_getD, hi]
        unfold eL
        rw [hl]
        have ha : a = ⟨a.block, a.off, none⟩ := by cases a; simp_all
        rw [ha]
        refine .sl len _ a.block a.off (P.cellsOf e) cap c (fun i hi => by rw [hgd i hi]; exact (spec i hi).1) (fun i hi => (spec i hi).2.1) (fun i hi j x hx => ?_) (fun i hi j hj => ?_) hlc (fun i _ => hn _)
        · have hj : j < P.cellsOf e := by rw [← (spec i hi).2.1]; exact (Array.getElem?_eq_some_iff.1 hx).1
          have := (spec i hi).2.2 j hj
          rw [addr] at this
          rw [this, hx]
        · have := (spec i hi).2.2 j hj
          rw [addr] at this
          show (w.cell? _).isSome = true
          rw [this, Array.getElem?_eq_getElem (by rw [(spec i hi).2.1]; exact hj)]
          rfl
      · have h00 : len = 0 := by omega
        subst h00
        exact .sl0 _ _ _ _ (by simp)

theorem opens_slice {t e : TypeId} {α : Type} [Inhabited α] {en : α → V} {ok : α → Prop} (ht : P.underlying t = some (.slice e)) (hk : 0 < P.cellsOf e) (hc : ∀ a, (en a).cells.length = P.cellsOf e) (hn : ∀ a, noTup (en a) = true) (he : Opens enc P w e en ok) :
    Opens enc P w t (eL en) (fun l => (∀ a ∈ l, ok a) ∧ l.length ≤ maxLen) := fun _ _ _ h =>
  let ⟨l, h1, h2, h3, _⟩ := open_slice ht hk hc hn he h
  ⟨l, ⟨h1, h3⟩, h2⟩

/-! ### Arguments -/

theorem rep_of_cells {g : Gh} {y : V} {v : Value} (hy : y.cells = [y]) (hv : one v = true) (h : RepCs g w y.cells v.cells.toList) : Rep g w y v := by
  rw [hy, cells_of_one hv] at h
  exact (h.2 0 y v rfl rfl).1

theorem rep_of_agg {g : Gh} {ys : List V} {cs : Array Value} (h : RepCs g w ys cs.toList) : Rep g w (.agg ys) (.agg cs) := by
  refine .agg ys cs (by simpa using h.1) (fun i x y hx hy => (h.2 i x y hx (by simpa using hy)).1) (fun i y hy => ?_)
  have hlt : i < ys.length := by
    rw [show ys.length = cs.toList.length from h.1]
    have := (Array.getElem?_eq_some_iff.1 hy).1
    simpa using this
  exact (h.2 i _ y (List.getElem?_eq_getElem hlt) (by simpa using hy)).2

/-- A slice that a row hands in. -/
theorem arg_slice {t e : TypeId} {α : Type} [Inhabited α] {en : α → V} {ok : α → Prop} {d : DataW H} {ps : List MemPlace} {a : Option Addr} {len cap : Nat} (ht : P.underlying t = some (.slice e)) (hk : 0 < P.cellsOf e) (hc : ∀ a, (en a).cells.length = P.cellsOf e) (hn : ∀ a, noTup (en a) = true)
    (he : Opens enc P w e en ok) (h : DataW.Trod enc P w 0 (fun _ => true) true t (.slice a len cap) d ps) :
    ∃ l : List α, (∀ a ∈ l, ok a) ∧ Rep (allFx w) w (eL en l) (.slice a len cap) ∧ l.length ≤ maxLen ∧ (l = [] ∨ ∃ es sp, d = .slice es sp ∧ es.length = l.length) := by
  obtain ⟨fuel, hf⟩ := h
  obtain ⟨l, h1, h2, h3, h4⟩ := open_slice ht hk hc hn he hf
  exact ⟨l, h1, rep_of_cells rfl rfl h2, h3, h4⟩

/-- The size of a slice that a row hands in. -/
theorem arg_size {ts : List TypeId} {ds : List (DataW H)} (hz : (DataW.weightsEach P ts ds).all (· ≤ reachBytes) = true) {j : Nat} {t e : TypeId} {d : DataW H} {α : Type} {l : List α} (ht : ts[j]? = some t) (hd : ds[j]? = some d) (hu : P.underlying t = some (.slice e)) (h : l = [] ∨ ∃ es sp, d = .slice es sp ∧ es.length = l.length) :
    l.length * P.bytesOf e ≤ reachBytes := by
  rcases h with rfl | ⟨es, sp, rfl, hl⟩
  · simp
  · have := sized_slice hz ht hd hu
    rw [← hl]
    exact Nat.le_trans (Nat.mul_le_mul_right _ (Nat.le_add_right _ _)) this

theorem Ext.below {g : Gh} {w' : World} {g' : Gh} (h : Ext g w g' w') (h0 : g.n = 0) : Below w.heap.size w w' :=
  ⟨h.os, h.tape, h.output, h.size, fun k hk => h.keep k hk (fun l hl => by omega)⟩

/-- **A law's walk is its row's.** -/
theorem row_calls {f : FuncId} {args : List V} {vs : Array Value} {b : Value} (h : Fine P f args (.lit b)) (hl : args.length = vs.size) (hr : ∀ (i : Nat) x y, args[i]? = some x → vs[i]? = some y → Rep (allFx w) w x y) :
    Calls P f vs w fun e w' => e = .returned b ∧ Below w.heap.size w w' := by
  refine ((h []).2 (allFx w) w vs (allFx_sr w) hl hr).mono ?_
  rintro e w' ⟨v, r, g', H', rfl, hrep, _, hx, rfl, _⟩
  cases hrep
  exact ⟨rfl, hx.below rfl⟩

def RepAll (g : Gh) (w : World) : List V → List Value → Prop
  | [], [] => True
  | x :: xs, y :: ys => Rep g w x y ∧ RepAll g w xs ys
  | _, _ => False

theorem RepAll.get {g : Gh} : ∀ {xs : List V} {ys : List Value}, RepAll g w xs ys → xs.length = ys.length ∧ ∀ (i : Nat) x y, xs[i]? = some x → ys[i]? = some y → Rep g w x y
  | [], [], _ => by simp
  | x :: xs, y :: ys, h => by
    obtain ⟨h1, h2⟩ := RepAll.get h.2
    refine ⟨by simp [h1], fun i a b ha hb => ?_⟩
    cases i with
    | zero => simp at ha hb; subst ha; subst hb; exact h.1
    | succ i => simp at ha hb; exact h2 i a b ha hb
  | [], _ :: _, h => h.elim
  | _ :: _, [], h => h.elim

theorem row_all {f : FuncId} {args : List V} {vs : List Value} {b : Value} (h : Fine P f args (.lit b)) (hr : RepAll (allFx w) w args vs) : Calls P f vs.toArray w fun e w' => e = .returned b ∧ Below w.heap.size w w' := by
  obtain ⟨h1, h2⟩ := hr.get
  exact row_calls h (by simpa using h1) (fun i x y hx hy => h2 i x y hx (by simpa using hy))

/-- A whole number of 64 bits. -/
def in64 (n : Int) : Prop := -9223372036854775808 ≤ n ∧ n ≤ 9223372036854775807

theorem in64_of {n : Int} (h : (Lit.int .i64 n).wf = true) : in64 n := by
  simp [Lit.wf, IntKind.min, IntKind.max, IntKind.signed, IntKind.bits] at h
  unfold in64
  omega

theorem opens_i64 {t : TypeId} (ht : P.underlying t = some (.int .i64)) : Opens enc P w t (eInt .i64) in64 := fun fuel cs x h =>
  let ⟨a, h1, h2⟩ := opens_int ht fuel cs x h
  ⟨a, in64_of h1, h2⟩

end Go.Abs
