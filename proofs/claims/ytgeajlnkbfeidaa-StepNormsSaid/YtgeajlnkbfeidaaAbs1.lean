/- Abstract values, and what a value and a world are to them: the ground of the walks of this place. -/
import Derived.CallsIn
import Derived.RangeFuncIn
import Derived.RangeFuncCalls
import Derived.Below
namespace Go.Abs
open Go Go.RowKit

/-- An abstract value: what a place of the program holds, with frozen memory told as the values that it holds. -/
inductive V where
  | lit (v : Value)
  | agg (cs : List V)
  | tup (cs : List V)
  | sl (z : Bool) (n : Nat) (el : Nat → V)
  | msl (k l i n : Nat)
  | rp (x : V)
  | lp (l i o : Nat)
  | fn (f : Fn) (first cap : List V)
  | ifc (t : TypeId) (x : V)
  | mp (l : Nat)

instance : Inhabited V := ⟨.tup []⟩

def V.bad : V := .tup []

def V.cells : V → List V
  | .agg cs => cs
  | v => [v]

/-- No tuple: what memory may hold. -/
def noTup : V → Bool
  | .tup _ => false
  | _ => true

/-- Values without memory. -/
def plain : Value → Bool
  | .bool _ | .int _ _ | .float _ _ | .complex _ _ _ | .string _ | .nilFunc | .nilIface => true
  | .pointer a => a.isNone
  | .map r => r.isNone
  | .func (.yield _) a b => a.isEmpty && b.isEmpty
  | _ => false

/-- Values of one cell. -/
def one : Value → Bool
  | .agg _ | .tuple _ => false
  | _ => true

theorem one_of_plain {v : Value} (h : plain v = true) : one v = true := by cases v <;> simp_all [plain, one]

theorem cells_of_one {v : Value} (h : one v = true) : v.cells = #[v] := by cases v <;> simp_all [one, Value.cells]

/-- The ghost state: which cells are fixed for ever; where each abstract place lies. -/
structure Gh where
  fx : Nat → Nat → Prop
  n : Nat
  blk : Nat → Nat
  off : Nat → Nat
  k : Nat → Nat
  cap : Nat → Nat

def Holds (w : World) (b o : Nat) (c : Value) : Prop := ∀ j x, c.cells[j]? = some x → w.cell? ⟨b, o + j, none⟩ = some x

inductive Rep (g : Gh) (w : World) : V → Value → Prop
  | lit (v : Value) : plain v = true → Rep g w (.lit v) v
  | agg (cs : List V) (vs : Array Value) : cs.length = vs.size → (∀ (i : Nat) x y, cs[i]? = some x → vs[i]? = some y → Rep g w x y) →
      (∀ (i : Nat) y, vs[i]? = some y → one y = true) → Rep g w (.agg cs) (.agg vs)
  | tup (cs : List V) (vs : Array Value) : cs.length = vs.size → (∀ (i : Nat) x y, cs[i]? = some x → vs[i]? = some y → Rep g w x y) → Rep g w (.tup cs) (.tuple vs)
  | sl0 (z : Bool) (el : Nat → V) (a : Option Addr) (cap : Nat) : (z = true → cap = 0) → Rep g w (.sl z 0 el) (.slice a 0 cap)
  | sl (n : Nat) (el : Nat → V) (b o k cap : Nat) (c : Nat → Value) : (∀ i, i < n → Rep g w (el i) (c i)) → (∀ i, i < n → (c i).cells.size = k) →
      (∀ i, i < n → Holds w b (o + i * k) (c i)) → (∀ i, i < n → ∀ j, j < k → g.fx b (o + i * k + j)) → n ≤ cap → (∀ i, i < n → noTup (el i) = true) → Rep g w (.sl false n el) (.slice (some ⟨b, o, none⟩) n cap)
  | msl (l i n : Nat) : l < g.n → i + n ≤ g.cap l → Rep g w (.msl (g.k l) l i n) (.slice (some ⟨g.blk l, g.off l + i * g.k l, none⟩) n (g.cap l - i))
  | msl0 (l i : Nat) (a : Option Addr) : l < g.n → g.cap l = i → Rep g w (.msl (g.k l) l i 0) (.slice a 0 0)
  | rp (x : V) (c : Value) (b o : Nat) : Rep g w x c → Holds w b o c → (∀ j, j < c.cells.size → g.fx b (o + j)) → Rep g w (.rp x) (.pointer (some ⟨b, o, none⟩))
  | lp (l i o : Nat) : l < g.n → Rep g w (.lp l i o) (.pointer (some ⟨g.blk l, g.off l + i * g.k l + o, none⟩))
  | fn (f : Fn) (first cap : List V) (fs cs : Array Value) : first.length = fs.size → cap.length = cs.size →
      (∀ (i : Nat) x y, first[i]? = some x → fs[i]? = some y → Rep g w x y) → (∀ (i : Nat) x y, cap[i]? = some x → cs[i]? = some y → Rep g w x y) → Rep g w (.fn f first cap) (.func f fs cs)
  | ifc (t : TypeId) (x : V) (c : Value) : Rep g w x c → Rep g w (.ifc t x) (.iface t c)
  | mp (l : Nat) : l < g.n → Rep g w (.mp l) (.map (some (g.blk l)))

/-- What is represented stays so. -/
structure Ext0 (g : Gh) (w : World) (g' : Gh) (w' : World) : Prop where
  fx : ∀ b o, g.fx b o → g'.fx b o
  cell : ∀ b o, g.fx b o → w'.cell? ⟨b, o, none⟩ = w.cell? ⟨b, o, none⟩
  n : g.n ≤ g'.n
  blk : ∀ l, l < g.n → g'.blk l = g.blk l
  off : ∀ l, l < g.n → g'.off l = g.off l
  k : ∀ l, l < g.n → g'.k l = g.k l
  cap : ∀ l, l < g.n → g'.cap l = g.cap l

/-- One state is later than another one: what is fixed stays, what was there and is nobody's stays. -/
structure Ext (g : Gh) (w : World) (g' : Gh) (w' : World) : Prop extends Ext0 g w g' w' where
  size : w.heap.size ≤ w'.heap.size
  os : w'.os = w.os
  tape : w'.tape = w.tape
  output : w'.output = w.output
  keep : ∀ b, b < w.heap.size → (∀ l, l < g.n → g.blk l ≠ b) → w'.heap[b]? = w.heap[b]?
  newblk : ∀ l, g.n ≤ l → l < g'.n → w.heap.size ≤ g'.blk l ∨ ∃ l0, l0 < g.n ∧ g.blk l0 = g'.blk l

theorem Ext.refl (g : Gh) (w : World) : Ext g w g w :=
  ⟨⟨fun _ _ h => h, fun _ _ _ => rfl, Nat.le_refl _, fun _ _ => rfl, fun _ _ => rfl, fun _ _ => rfl, fun _ _ => rfl⟩, Nat.le_refl _, rfl, rfl, rfl, fun _ _ _ => rfl, fun l h h' => absurd h' (by omega)⟩

theorem Ext.trans {g g' g'' : Gh} {w w' w'' : World} (h : Ext g w g' w') (h' : Ext g' w' g'' w'') : Ext g w g'' w'' where
  fx b o x := h'.fx b o (h.fx b o x)
  cell b o x := (h'.cell b o (h.fx b o x)).trans (h.cell b o x)
  n := Nat.le_trans h.n h'.n
  blk l x := (h'.blk l (Nat.lt_of_lt_of_le x h.n)).trans (h.blk l x)
  off l x := (h'.off l (Nat.lt_of_lt_of_le x h.n)).trans (h.off l x)
  k l x := (h'.k l (Nat.lt_of_lt_of_le x h.n)).trans (h.k l x)
  cap l x := (h'.cap l (Nat.lt_of_lt_of_le x h.n)).trans (h.cap l x)
  size := Nat.le_trans h.size h'.size
  os := h'.os.trans h.os
  tape := h'.tape.trans h.tape
  output := h'.output.trans h.output
  keep b hb hl := by
    refine (h'.keep b (Nat.lt_of_lt_of_le hb h.size) fun l hl' => ?_).trans (h.keep b hb hl)
    by_cases hn : l < g.n
    · rw [h.blk l hn]; exact hl l hn
    · rcases h.newblk l (by omega) hl' with h1 | ⟨l0, h0, e⟩
      · omega
      · rw [← e]; exact hl l0 h0
  newblk l hl hl' := by
    by_cases hn : l < g'.n
    · rw [h'.blk l hn]; exact h.newblk l hl hn
    · rcases h'.newblk l (by omega) hl' with h1 | ⟨l0, h0, e⟩
      · exact .inl (Nat.le_trans h.size h1)
      · by_cases hn0 : l0 < g.n
        · exact .inr ⟨l0, hn0, by rw [← e, h.blk l0 hn0]⟩
        · rw [← e]; exact h.newblk l0 (by omega) h0

theorem Holds.ext {g g' : Gh} {w w' : World} (e : Ext0 g w g' w') {b o : Nat} {c : Value} (h : Holds w b o c) (hf : ∀ j, j < c.cells.size → g.fx b (o + j)) : Holds w' b o c := by
  intro j x hx
  have hj : j < c.cells.size := (Array.getElem?_eq_some_iff.1 hx).1
  rw [e.cell b (o + j) (hf j hj)]
  exact h j x hx

theorem Rep.ext {g g' : Gh} {w w' : World} (e : Ext0 g w g' w') {x : V} {v : Value} (h : Rep g w x v) : Rep g' w' x v := by
  induction h with
  | lit v hp => exact .lit v hp
  | agg cs vs hl _ ho ih => exact .agg cs vs hl ih ho
  | tup cs vs hl _ ih => exact .tup cs vs hl ih
  | sl0 z el a cap hz => exact .sl0 z el a cap hz
  | sl n el b o k cap c _ hk hh hf hn hnt ih =>
    refine .sl n el b o k cap c ih hk (fun i hi => (hh i hi).ext e fun j hj => hf i hi j (by rw [← hk i hi]; exact hj)) (fun i hi j hj => e.fx _ _ (hf i hi j hj)) hn hnt
  | msl l i n hl hc =>
    have := Rep.msl (g := g') (w := w') l i n (Nat.lt_of_lt_of_le hl e.n) (by rw [e.cap l hl]; exact hc)
    rwa [e.blk l hl, e.off l hl, e.k l hl, e.cap l hl] at this
  | msl0 l i a hl hc =>
    have := Rep.msl0 (g := g') (w := w') l i a (Nat.lt_of_lt_of_le hl e.n) (by rw [e.cap l hl]; exact hc)
    rwa [e.k l hl] at this
  | rp x c b o _ hh hf ih => exact .rp x c b o ih (hh.ext e hf) (fun j hj => e.fx _ _ (hf j hj))
  | lp l i o hl =>
    have := Rep.lp (g := g') (w := w') l i o (Nat.lt_of_lt_of_le hl e.n)
    rwa [e.blk l hl, e.off l hl, e.k l hl] at this
  | fn f first cap fs cs h1 h2 _ _ ih1 ih2 => exact .fn f first cap fs cs h1 h2 ih1 ih2
  | ifc t x c _ ih => exact .ifc t x c ih
  | mp l hl =>
    have := Rep.mp (g := g') (w := w') l (Nat.lt_of_lt_of_le hl e.n)
    rwa [e.blk l hl] at this

theorem Rep.mslE {g : Gh} {w : World} {k l i n : Nat} {v : Value} (h : Rep g w (.msl k l i n) v) : l < g.n ∧ g.k l = k ∧
    ((i + n ≤ g.cap l ∧ v = .slice (some ⟨g.blk l, g.off l + i * k, none⟩) n (g.cap l - i)) ∨ (n = 0 ∧ g.cap l = i ∧ ∃ a, v = .slice a 0 0)) := by
  cases h with
  | msl l i n hl hc => exact ⟨hl, rfl, .inl ⟨hc, rfl⟩⟩
  | msl0 l i a hl hc => exact ⟨hl, rfl, .inr ⟨rfl, hc, a, rfl⟩⟩

/-- The objects of the abstract heap. -/
inductive AObj where
  | vec (k : Nat) (es : List V)
  | raw (o : Obj)
  | dead

abbrev Heap := List AObj

def AObj.alive : AObj → Bool
  | .dead => false
  | _ => true

/-- The world is such as the abstract heap says. -/
structure SR (g : Gh) (w : World) (H : Heap) : Prop where
  len : H.length = g.n
  fxc : ∀ b o, g.fx b o → (w.cell? ⟨b, o, none⟩).isSome = true
  nt : ∀ (l k : Nat) (es : List V), H[l]? = some (.vec k es) → ∀ x ∈ es, noTup x = true
  kk : ∀ (l k : Nat) (es : List V), H[l]? = some (.vec k es) → g.k l = k
  vec : ∀ l k es, H[l]? = some (.vec k es) → es.length ≤ g.cap l ∧
    (∃ c : Nat → Value, ∀ i x, es[i]? = some x → Rep g w x (c i) ∧ (c i).cells.size = g.k l ∧ Holds w (g.blk l) (g.off l + i * g.k l) (c i)) ∧
    (∀ j, j < g.k l * g.cap l → (w.cell? ⟨g.blk l, g.off l + j, none⟩).isSome = true ∧ w.frozen? ⟨g.blk l, g.off l + j, none⟩ = false ∧ ¬ g.fx (g.blk l) (g.off l + j))
  raw : ∀ l o, H[l]? = some (.raw o) → w.heap[g.blk l]? = some o ∧ o.isCells = false
  disj : ∀ l l' k k' es es', H[l]? = some (.vec k es) → H[l']? = some (.vec k' es') → l ≠ l' → ∀ j j', j < g.k l * g.cap l → j' < g.k l' * g.cap l' → ¬ (g.blk l = g.blk l' ∧ g.off l + j = g.off l' + j')
  rawd : ∀ l l' o o', H[l]? = some (.raw o) → H[l']? = some (.raw o') → l ≠ l' → g.blk l ≠ g.blk l'

end Go.Abs
