/- What the printed walks use: weaker values, freezing, loops as functions. -/
import Derived.Test.YtgeajlnkbfeidaaAbs16
namespace Go.Abs
open Go Go.RowKit

variable {P : Program} {tt : TT} {ro : Option Nat} {N : Nat} {T : Env} {H : Heap} {ds : List Nat} {Q : Exit → Env → Heap → List Nat → Prop}

/-! ### Weaker values -/

def SubV (x x' : V) : Prop := ∀ g w v, Rep g w x v → Rep g w x' v

theorem SubV.refl (x : V) : SubV x x := fun _ _ _ h => h

theorem subNil {z : Bool} {el el' : Nat → V} : SubV (.sl z 0 el) (.sl false 0 el') := fun _ _ _ h => by
  obtain ⟨a, cap, rfl, _, _⟩ := h.slE
  exact .sl0 _ _ _ _ (by simp)

def SubVs : List V → List V → Prop
  | [], [] => True
  | x :: r, y :: s => SubV x y ∧ SubVs r s
  | _, _ => False

theorem SubVs.refl : ∀ l : List V, SubVs l l
  | [] => trivial
  | x :: r => ⟨SubV.refl x, SubVs.refl r⟩

theorem SubVs.len : ∀ {l m : List V}, SubVs l m → l.length = m.length
  | [], [], _ => rfl
  | _ :: r, _ :: s, h => by simp [SubVs.len h.2]
  | [], _ :: _, h => h.elim
  | _ :: _, [], h => h.elim

theorem SubVs.get : ∀ {l m : List V}, SubVs l m → ∀ (i : Nat) x y, l[i]? = some x → m[i]? = some y → SubV x y
  | [], [], _, i, x, y, hx, _ => by simp at hx
  | a :: r, b :: s, h, i, x, y, hx, hy => by
    cases i with
    | zero => simp at hx hy; subst hx; subst hy; exact h.1
    | succ i => simp at hx hy; exact SubVs.get h.2 i x y hx hy
  | [], _ :: _, h, _, _, _, _, _ => h.elim
  | _ :: _, [], h, _, _, _, _, _ => h.elim

theorem subAgg {xs ys : List V} (h : SubVs xs ys) : SubV (.agg xs) (.agg ys) := fun g w v hr => by
  obtain ⟨vs, rfl, h1, h2, h3⟩ := hr.aggL
  refine RepL.rep ⟨by rw [← h.len]; exact h1, fun i x y hx hy => ?_, h3⟩
  have hlt : i < xs.length := by rw [h.len]; exact (List.getElem?_eq_some_iff.1 hx).1
  exact h.get i _ _ (List.getElem?_eq_getElem hlt) hx g w y (h2 i _ y (List.getElem?_eq_getElem hlt) hy)

theorem subTup {xs ys : List V} (h : SubVs xs ys) : SubV (.tup xs) (.tup ys) := fun g w v hr => by
  obtain ⟨vs, rfl, h1, h2⟩ := hr.tupE
  refine .tup _ _ (by rw [← h.len]; exact h1) fun i x y hx hy => ?_
  have hlt : i < xs.length := by rw [h.len]; exact (List.getElem?_eq_some_iff.1 hx).1
  exact h.get i _ _ (List.getElem?_eq_getElem hlt) hx g w y (h2 i _ y (List.getElem?_eq_getElem hlt) hy)

theorem SubV.eq {x y : V} (h : x = y) : SubV x y := by subst h; exact SubV.refl x

theorem ofL_weak {t : Nat} {c : Ctx} {x : V} : ∀ {l l' : List (Nat × V)}, l.map (·.1) = l'.map (·.1) → SubVs (l.map (·.2)) (l'.map (·.2)) → Env.ofL l' t = some (c, x) → c = [] ∧ ∃ x0, Env.ofL l t = some ([], x0) ∧ SubV x0 x
  | [], [], _, _, h => by simp [Env.ofL] at h
  | [], _ :: _, hk, _, _ => by simp at hk
  | _ :: _, [], hk, _, _ => by simp at hk
  | p :: r, q :: s, hk, hs, h => by
    simp only [List.map_cons, List.cons.injEq] at hk hs
    simp only [Env.ofL] at h ⊢
    rw [hk.1]
    cases hb : Nat.beq t q.1 with
    | true =>
      rw [hb] at h
      simp at h; obtain ⟨rfl, rfl⟩ := h
      exact ⟨rfl, p.2, rfl, hs.1⟩
    | false =>
      rw [hb] at h
      exact ofL_weak hk.2 hs.2 h

/-- On with what is kept, and weaker. -/
theorem C_weak {c : Code} (l l' : List (Nat × V)) (hk : l.map (·.1) = l'.map (·.1)) (hs : SubVs (l.map (·.2)) (l'.map (·.2))) (next : AWP P ro N c (Env.ofL l') H ds Q) : AWP P ro N c (Env.ofL l) H ds Q := by
  intro g w a R hg hr
  refine next g w a R ⟨hg.sr, ?_, hg.df, hg.dl, hg.sz⟩ hr
  intro t c' x ht
  obtain ⟨rfl, x0, h0, hsub⟩ := ofL_weak hk hs ht
  obtain ⟨v, hv, hrep⟩ := (hg.tr t [] x0 h0).1 (by simp [ctxOk])
  exact ⟨fun _ => ⟨v, hv, hsub g w v hrep⟩, fun h => absurd (by simp [ctxOk]) h⟩

/-! ### Slices that are told by a list -/

def eL {α : Type} [Inhabited α] (e : α → V) (l : List α) : V := .sl false l.length (fun i => e (l.getD i default))

def eInt (k : IntKind) (n : Int) : V := .lit (.int k n)
def eBool (b : Bool) : V := .lit (.bool b)
def eStr (s : ByteArray) : V := .lit (.string s)

theorem subNilL {α : Type} [Inhabited α] {e : α → V} {z : Bool} {el : Nat → V} : SubV (.sl z 0 el) (eL e []) := subNil

theorem Rep.slCongr {g : Gh} {w : World} {z : Bool} {n : Nat} {el el' : Nat → V} {v : Value} (h : Rep g w (.sl z n el) v) (he : ∀ i, i < n → el i = el' i) : Rep g w (.sl z n el') v := by
  cases h with
  | sl0 z el a cap hz => exact .sl0 z el' a cap hz
  | sl n el b o k cap c h1 h2 h3 h4 h5 h6 => exact .sl n el' b o k cap c (fun i hi => he i hi ▸ h1 i hi) h2 h3 h4 h5 (fun i hi => he i hi ▸ h6 i hi)

theorem subSl {n n' : Nat} {el el' : Nat → V} (hn : n = n') (he : ∀ i, i < n → el i = el' i) : SubV (.sl false n el) (.sl false n' el') := by
  subst hn
  exact fun g w v h => h.slCongr he

/-- A tail, as a list. -/
theorem subDrop {α : Type} [Inhabited α] {e : α → V} {l : List α} {a : Nat} : SubV (.sl false (l.length - a) (fun i => e (l.getD (a + i) default))) (eL e (l.drop a)) :=
  subSl (by simp) (fun i hi => by simp [List.getD_eq_getElem?_getD, List.getElem?_drop])

theorem subTake {α : Type} [Inhabited α] {e : α → V} {l : List α} {b : Nat} (hb : b ≤ l.length) : SubV (.sl false b (fun i => e (l.getD i default))) (eL e (l.take b)) :=
  subSl (by simp; omega) (fun i hi => by simp [List.getD_eq_getElem?_getD, List.getElem?_take, hi])

theorem subSub {α : Type} [Inhabited α] {e : α → V} {l : List α} {a b : Nat} (hb : b ≤ l.length) : SubV (.sl false (b - a) (fun i => e (l.getD (a + i) default))) (eL e ((l.take b).drop a)) :=
  subSl (by simp; omega) (fun i hi => by
    have : a + i < b := by omega
    simp [List.getD_eq_getElem?_getD, List.getElem?_drop, List.getElem?_take, this])

/-! ### The heap of a function's own -/

/-- What was there stays. -/
def HExt (H H' : Heap) : Prop := H.length ≤ H'.length ∧ ∀ l, l < H.length → H'[l]? = H[l]?

theorem HExt.refl (H : Heap) : HExt H H := ⟨Nat.le_refl _, fun _ _ => rfl⟩
theorem HExt.trans {H H' H'' : Heap} (h : HExt H H') (h' : HExt H' H'') : HExt H H'' := ⟨Nat.le_trans h.1 h'.1, fun l hl => (h'.2 l (Nat.lt_of_lt_of_le hl h.1)).trans (h.2 l hl)⟩
theorem HExt.push {H H' : Heap} (h : HExt H H') (o : AObj) : HExt H (H' ++ [o]) := ⟨by simp; have := h.1; omega, fun l hl => by rw [List.getElem?_append_left (Nat.lt_of_lt_of_le hl h.1)]; exact h.2 l hl⟩
theorem HExt.set {H H' : Heap} (h : HExt H H') {l : Nat} (hl : H.length ≤ l) (o : AObj) : HExt H (H'.set l o) := ⟨by simp; exact h.1, fun k hk => by rw [List.getElem?_set_ne (by omega)]; exact h.2 k hk⟩

theorem heap_push (H : Heap) (o : AObj) : (H ++ [o])[H.length]? = some o := by simp
theorem heap_push_old {H : Heap} {l : Nat} {o o' : AObj} (h : H[l]? = some o) : (H ++ [o'])[l]? = some o := by
  rw [List.getElem?_append_left (List.getElem?_eq_some_iff.1 h).1]; exact h
theorem HExt.at {H H' : Heap} (h : HExt H H') {l : Nat} {o : AObj} (ho : H[l]? = some o) : H'[l]? = some o := (h.2 l (List.getElem?_eq_some_iff.1 ho).1).trans ho

/-- An own slice that is built: where it lies, and its elements. -/
def Own (H0 : Heap) (k : Nat) (H : Heap) (l : Nat) (es : List V) : Prop := H0.length ≤ l ∧ H[l]? = some (.vec k es)

theorem Own.appS {H0 H : Heap} {k l n : Nat} {es : List V} (h : Own H0 k H l es) (hn : n = es.length) : Abs.appS k H (.msl k l 0 n) = some es := by
  subst hn
  simp [Abs.appS, h.2]

theorem Own.app {H0 H : Heap} {k l n : Nat} {es ys : List V} (h : Own H0 k H l es) (hx : HExt H0 H) : Own H0 k (appH k H (.msl k l 0 n) (es ++ ys)) H.length (es ++ ys) ∧ HExt H0 (appH k H (.msl k l 0 n) (es ++ ys)) := by
  refine ⟨⟨hx.1, ?_⟩, (hx.set h.1 .dead).push _⟩
  unfold appH
  simp

theorem Own.ext {H0 H H' : Heap} {k l : Nat} {es : List V} (h : Own H0 k H l es) (hx : HExt H H') : Own H0 k H' l es := ⟨h.1, hx.at h.2⟩

theorem Own.push {H0 H : Heap} {k l : Nat} {es : List V} (h : Own H0 k H l es) (o : AObj) : Own H0 k (H ++ [o]) l es := ⟨h.1, heap_push_old h.2⟩

theorem Own.new {H0 H : Heap} {k : Nat} {es : List V} (hx : HExt H0 H) : Own H0 k (H ++ [.vec k es]) H.length es := ⟨hx.1, heap_push _ _⟩

/-- Another own slice is appended to. -/
theorem Own.other {H0 H : Heap} {k l k' l' n : Nat} {es es' : List V} (h : Own H0 k H l es) (hne : l' ≠ l) : Own H0 k (appH k' H (.msl k' l' 0 n) es') l es := by
  refine ⟨h.1, ?_⟩
  unfold appH
  refine heap_push_old ?_
  rw [List.getElem?_set_ne hne]; exact h.2

theorem ofL_set {t : Nat} {x : V} : ∀ {l : List (Nat × V)} {i : Nat} {old : V} {u : Nat} {c : Ctx} {y : V}, l[i]? = some (t, old) → Env.ofL (l.set i (t, x)) u = some (c, y) →
    Env.ofL l u = some (c, y) ∨ (c = [] ∧ y = x ∧ Env.ofL l u = some ([], old))
  | [], i, old, u, c, y, h, _ => by simp at h
  | p :: r, 0, old, u, c, y, h, hu => by
    simp at h; subst h
    simp only [List.set_cons_zero, Env.ofL] at hu ⊢
    cases hb : Nat.beq u t with
    | true => rw [hb] at hu; simp at hu; exact .inr ⟨hu.1, hu.2.symm, rfl⟩
    | false => rw [hb] at hu; exact .inl hu
  | p :: r, i + 1, old, u, c, y, h, hu => by
    simp only [List.set_cons_succ, Env.ofL] at hu ⊢
    cases hb : Nat.beq u p.1 with
    | true => rw [hb] at hu; exact .inl hu
    | false => rw [hb] at hu; exact ofL_set (by simpa using h) hu

/-- What is built is frozen. -/
theorem C_freeze {c : Code} {l : List (Nat × V)} (i : Nat) {t k lo n : Nat} {es : List V} {n' : Nat} {el : Nat → V} (hi : l[i]? = some (t, .msl k lo 0 n)) (hl : H[lo]? = some (.vec k es)) (hn : n = es.length) (hn' : n' = es.length)
    (he : ∀ j, j < es.length → es.getD j .bad = el j) (next : AWP P ro N c (Env.ofL (l.set i (t, .sl false n' el))) (H.set lo .dead) ds Q) : AWP P ro N c (Env.ofL l) H ds Q := by
  subst hn; subst hn'
  intro g w a R hg hr
  obtain ⟨s1, s2, s3⟩ := hg.sr.freeze hl
  refine next _ w a R (hg.step s2 s1 ?_ rfl rfl) (fun e T' H' ds' g' w' a' q hg' hx => hr e T' H' ds' g' w' a' q hg' (s2.trans hx))
  have htr := hg.tr.ext s2
  intro u c' x hu
  rcases ofL_set hi hu with h | ⟨rfl, rfl, h⟩
  · exact htr u c' x h
  · obtain ⟨v, hv, hrep⟩ := (hg.tr u [] _ h).1 (by simp [ctxOk])
    exact ⟨fun _ => ⟨v, hv, (s3 v hrep).slCongr he⟩, fun hnc => absurd (by simp [ctxOk]) hnc⟩

/-- What is built is frozen: a list. -/
theorem C_freezeL {α : Type} [Inhabited α] {e : α → V} {xs : List α} {c : Code} {l : List (Nat × V)} (i : Nat) {t k lo n : Nat} (hi : l[i]? = some (t, .msl k lo 0 n)) (hl : H[lo]? = some (.vec k (xs.map e))) (hn : n = xs.length)
    (next : AWP P ro N c (Env.ofL (l.set i (t, eL e xs))) (H.set lo .dead) ds Q) : AWP P ro N c (Env.ofL l) H ds Q :=
  C_freeze i hi hl (by simpa using hn) (n' := xs.length) (by simp) (fun j hj => by
    have hj' : j < xs.length := by simpa using hj
    simp [List.getD_eq_getElem?_getD, hj']) next

/-- What is of no room is taken as built. -/
theorem C_own {c : Code} {l : List (Nat × V)} (i : Nat) {t k : Nat} {el : Nat → V} (hi : l[i]? = some (t, .sl true 0 el)) (next : AWP P ro N c (Env.ofL (l.set i (t, .msl k H.length 0 0))) (H ++ [.vec k []]) ds Q) :
    AWP P ro N c (Env.ofL l) H ds Q := by
  intro g w a R hg hr
  have hm := hg.sr.more (b := w.heap.size) (o := 0) (k := k) (cap := 0) (xs := []) (by simp) (by simp) (fun _ => undef) (by simp) (by simp) (fun _ _ _ _ _ _ _ hj => by simp at hj)
  have hx : Ext g w (g.more w.heap.size 0 k 0) w := (Ext.refl g w).more (.inl (Nat.le_refl _))
  refine next _ w a R (hg.step hx hm ?_ rfl rfl) (fun e T' H' ds' g' w' a' q hg' hx' => hr e T' H' ds' g' w' a' q hg' (hx.trans hx'))
  have htr := hg.tr.ext hx
  intro u c' x hu
  rcases ofL_set hi hu with h | ⟨rfl, rfl, h⟩
  · exact htr u c' x h
  · obtain ⟨v, hv, hrep⟩ := (hg.tr u [] _ h).1 (by simp [ctxOk])
    obtain ⟨a0, cap, rfl, hn, hz⟩ := hrep.slE
    have hc0 := hz rfl
    subst hc0
    refine ⟨fun _ => ⟨_, hv, ?_⟩, fun hnc => absurd (by simp [ctxOk]) hnc⟩
    have := Rep.msl0 (g := g.more w.heap.size 0 k 0) (w := w) g.n 0 a0 (Nat.lt_succ_self _) (by simp [Gh.more, upd_same])
    rw [hg.sr.len]
    simpa [Gh.more, upd_same] using this

/-! ### Calls and ends with weaker values -/

theorem ACall.sub {f : FuncId} {as as' : List V} {H : Heap} {Q : V → Heap → Prop} (h : ACall P f as' H Q) (hs : SubVs as as') : ACall P f as H Q :=
  ⟨h.1, fun g w vs h1 h2 h3 => h.2 g w vs h1 (by rw [← hs.len]; exact h2) (fun i x y hx hy => by
    have hlt : i < as.length := by rw [hs.len]; exact (List.getElem?_eq_some_iff.1 hx).1
    exact hs.get i _ _ (List.getElem?_eq_getElem hlt) hx g w y (h3 i _ y (List.getElem?_eq_getElem hlt) hy))⟩

theorem ACall.post {f : FuncId} {as : List V} {H : Heap} {Q Q' : V → Heap → Prop} (h : ACall P f as H Q) (hq : ∀ r H', Q r H' → ∃ r', SubV r r' ∧ Q' r' H') : ACall P f as H Q' :=
  ⟨h.1, fun g w vs h1 h2 h3 => (h.2 g w vs h1 h2 h3).mono fun _ _ ⟨v, r, g', H', a, b, c, d, e⟩ => let ⟨r', hs, hq'⟩ := hq r H' e; ⟨v, r', g', H', a, hs _ _ _ b, c, d, hq'⟩⟩

/-! ### Loops as functions -/

def iter {S R : Type} (body : S → Option (S ⊕ R)) : Nat → S → Option R
  | 0, _ => none
  | k + 1, s => match body s with
    | some (.inl s') => iter body k s'
    | some (.inr r) => some r
    | none => none

open Classical in
/-- A loop: what it comes to, if it comes to an end. -/
noncomputable def lp {S R : Type} (body : S → Option (S ⊕ R)) (s : S) : Option R :=
  if h : ∃ k r, iter body k s = some r then iter body (Classical.choose h) s else none

theorem iter_more {S R : Type} {body : S → Option (S ⊕ R)} : ∀ {k : Nat} {s : S} {r : R}, iter body k s = some r → ∀ m, iter body (k + m) s = some r
  | 0, s, r, h, _ => by simp [iter] at h
  | k + 1, s, r, h, m => by
    rw [show k + 1 + m = (k + m) + 1 by omega]
    simp only [iter] at h ⊢
    split at h
    · exact iter_more h m
    · exact h
    · exact h

theorem iter_unique {S R : Type} {body : S → Option (S ⊕ R)} {k k' : Nat} {s : S} {r r' : R} (h : iter body k s = some r) (h' : iter body k' s = some r') : r = r' := by
  have h1 := iter_more h k'
  have h2 := iter_more h' k
  rw [Nat.add_comm] at h2
  rw [h1] at h2
  exact Option.some.inj h2

theorem lp_some {S R : Type} {body : S → Option (S ⊕ R)} {s : S} {r : R} : lp body s = some r ↔ ∃ k, iter body k s = some r := by
  unfold lp
  constructor
  · intro h
    split at h
    · exact ⟨_, h⟩
    · cases h
  · rintro ⟨k, hk⟩
    have hex : ∃ k r, iter body k s = some r := ⟨k, r, hk⟩
    rw [dif_pos hex]
    obtain ⟨r', hr'⟩ := Classical.choose_spec hex
    rw [hr', iter_unique hk hr']

theorem lp_next {S R : Type} {body : S → Option (S ⊕ R)} {s s' : S} (h : body s = some (.inl s')) : lp body s = lp body s' := by
  apply Option.ext
  intro r
  simp only [lp_some]
  constructor
  · rintro ⟨k, hk⟩
    cases k with
    | zero => simp [iter] at hk
    | succ k => exact ⟨k, by simpa [iter, h] using hk⟩
  · rintro ⟨k, hk⟩
    exact ⟨k + 1, by simpa [iter, h] using hk⟩

theorem lp_last {S R : Type} {body : S → Option (S ⊕ R)} {s : S} {r : R} (h : body s = some (.inr r)) : lp body s = some r :=
  lp_some.2 ⟨1, by simp [iter, h]⟩

/-- A loop by a claim and a measure. -/
theorem lp_inv {S R : Type} {body : S → Option (S ⊕ R)} (I : S → Prop) (m : S → Nat) (Post : R → Prop)
    (step : ∀ s, I s → (∃ s', body s = some (.inl s') ∧ I s' ∧ m s' < m s) ∨ ∃ r, body s = some (.inr r) ∧ Post r) : ∀ {s : S}, I s → ∃ r, lp body s = some r ∧ Post r := by
  have key : ∀ n s, m s = n → I s → ∃ r, lp body s = some r ∧ Post r := by
    intro n
    induction n using Nat.strongRecOn with
    | _ n ih =>
      intro s hn hs
      rcases step s hs with ⟨s', h1, h2, h3⟩ | ⟨r, h1, h2⟩
      · rw [lp_next h1]; exact ih _ (hn ▸ h3) s' rfl h2
      · exact ⟨r, lp_last h1, h2⟩
  exact fun {s} hs => key _ s rfl hs

/-- One round. -/
theorem iter_succ {S R : Type} {body : S → Option (S ⊕ R)} {k : Nat} {s : S} {r : R} (h : iter body k s = some r) :
    ∃ k', k = k' + 1 ∧ ((∃ s', body s = some (.inl s') ∧ iter body k' s' = some r) ∨ body s = some (.inr r)) := by
  cases k with
  | zero => simp [iter] at h
  | succ k =>
    refine ⟨k, rfl, ?_⟩
    simp only [iter] at h
    split at h
    · rename_i s' hs; exact .inl ⟨s', hs, h⟩
    · rename_i r' hr; simp at h; subst h; exact .inr hr
    · cases h

/-- What a round's answer says of the loop's. -/
def OutOk {S R : Type} (body : S → Option (S ⊕ R)) (k : Nat) (r : R) : S ⊕ R → Prop
  | .inl s => iter body k s = some r
  | .inr r' => r' = r

theorem iter_step {S R : Type} {body : S → Option (S ⊕ R)} {k : Nat} {s : S} {r : R} (h : iter body k s = some r) : ∃ k' out, k = k' + 1 ∧ body s = some out ∧ OutOk body k' r out := by
  obtain ⟨k', rfl, ⟨s', h1, h2⟩ | h1⟩ := iter_succ h
  · exact ⟨k', _, rfl, h1, h2⟩
  · exact ⟨k', _, rfl, h1, rfl⟩

/-- A piece of code, and one claim on what follows it. -/
theorem C_seqJ {c : Code} (hk : c.kind = 1) (J : Env → Heap → Prop) (hJ : ∀ T H, J T H → AWP P ro N c.r T H [] Q) (h : AWP P ro N c.l T H [] (thenA (fun T H ds => ds = [] ∧ J T H) Q)) : AWP P ro N c T H [] Q := by
  refine C_seq hk (h.mono ?_)
  intro e T H ds hq
  cases e with
  | normal => obtain ⟨rfl, hq⟩ := hq; exact hJ T H hq
  | _ => exact hq

/-- A loop of which the state is told. -/
theorem C_loopS {c : Code} {S R : Type} {body : S → Option (S ⊕ R)} {s : S} {r : R} (hk : c.kind = 4) (I : S → Env → Heap → Prop) (hl : lp body s = some r) (h0 : I s T H)
    (round : ∀ k s out T H, I s T H → body s = some out → OutOk body k r out → AWP P ro N c.b T H [] (thenA (fun T' H' ds' => ds' = [] ∧ ∃ s', out = .inl s' ∧ I s' T' H') Q)) : AWP P ro N c T H [] Q := by
  obtain ⟨k, hk0⟩ := lp_some.1 hl
  refine C_loop hk (fun k T H ds => ds = [] ∧ ∃ s, I s T H ∧ iter body k s = some r) (k := k) ⟨rfl, s, h0, hk0⟩ ?_
  rintro k T H ds ⟨rfl, s, hI, hit⟩
  obtain ⟨k', out, rfl, hb, ho⟩ := iter_step hit
  refine (round k' s out T H hI hb ho).mono ?_
  intro e T' H' ds' hq
  cases e with
  | normal =>
    obtain ⟨rfl, s', rfl, hI'⟩ := hq
    exact ⟨k', Nat.lt_succ_self _, rfl, s', hI', ho⟩
  | _ => exact hq

/-! ### What a function hands back -/

theorem Q_ret {fn : Func} {Q : V → Heap → Prop} {x x' : V} (hx : resV fn T = some x) (hs : SubV x x') (hq : Q x' H) : retQ fn (fun r H => ∃ r', SubV r r' ∧ Q r' H) .ret T H [] :=
  ⟨rfl, x, hx, x', hs, hq⟩

theorem Q_end {fn : Func} {Q : V → Heap → Prop} {x x' : V} (hx : resV fn T = some x) (hs : SubV x x') (hq : Q x' H) : retQ fn (fun r H => ∃ r', SubV r r' ∧ Q r' H) .normal T H [] :=
  ⟨rfl, x, hx, x', hs, hq⟩

/-- A function's contract, with a weaker value handed back. -/
theorem F_walk {f : Nat} {fn : Func} {args : List V} {Q : V → Heap → Prop} (hf : P.funcs[f]? = some fn) (hb : fn.body.isSome = true) (hname : (fn.name == "runtime.NumGoroutine") = false) (hN0 : Nat.ble args.length fn.ntmps = true)
    (h : AWP P none fn.ntmps (B fn) (Env.ofL (params 0 args)) H [] (retQ fn (fun r H => ∃ r', SubV r r' ∧ Q r' H))) : ACall P f args H Q :=
  (F_enter hf hb hname hN0 h).post fun _ _ h => h

/-- A call's contract, as the printed functions say it. -/
def Fine (P : Program) (f : FuncId) (args : List V) (r : V) : Prop := ∀ H, ACall P f args H fun x H' => x = r ∧ HExt H H'

/-! ### Regions whose order is drawn -/

def runCD (tt : TT) (N : Nat) (ops : Array Oper) : List Nat → PE → Option (List Prop)
  | [], _ => some []
  | i :: is, T => match ops[i]? with
    | none => none
    | some o => match dOk N o, guardV ops T o with
      | true, some true => match pureD tt T o.op with
        | some (Cs, x) => match runCD tt N ops is (T.setO o.dst x) with
          | some Ds => some (Cs ++ Ds)
          | none => none
        | none => none
      | true, some false => runCD tt N ops is (T.setO o.dst .bad)
      | _, _ => none

def runED (tt : TT) (ops : Array Oper) : List Nat → PE → PE
  | [], T => T
  | i :: is, T => match ops[i]? with
    | none => T
    | some o => match guardV ops T o with
      | some true => match pureD tt T o.op with
        | some (_, x) => runED tt ops is (T.setO o.dst x)
        | none => T
      | some false => runED tt ops is (T.setO o.dst .bad)
      | none => T

theorem RD_run {ops : Array Oper} {K : PE → Heap → Prop} : ∀ {is js : List Nat} {T : PE} {Ds : List Prop}, runCD tt N ops is T = some Ds → allP Ds → RD P tt N ops js (runED tt ops is T) H K → RD P tt N ops (is ++ js) T H K
  | [], js, T, Ds, _, _, h => h
  | i :: is, js, T, Ds, hc, hD, h => by
    simp only [runCD] at hc
    simp only [runED] at h
    split at hc
    · simp at hc
    · rename_i o ho
      simp only [ho] at h
      split at hc
      · rename_i hd hg
        simp only [hg] at h
        split at hc
        · rename_i Cs x hp
          simp only [hp] at h
          split at hc
          · rename_i Ds' hDs
            simp at hc; subst hc
            obtain ⟨d1, d2⟩ := allP_append.1 hD
            exact ⟨o, ho, hd, true, hg, ⟨fun _ => .inl ⟨Cs, x, hp, d1, RD_run hDs d2 h⟩, fun h => by simp at h⟩⟩
          · simp at hc
        · simp at hc
      · rename_i hd hg
        simp only [hg] at h
        exact ⟨o, ho, hd, false, hg, ⟨fun h => by simp at h, fun _ => RD_run hc hD h⟩⟩
      · simp at hc

section drawn
variable {ops : Array Oper} {K : PE → Heap → Prop} {i n : Nat} {T : PE}

theorem D_pure (j : Nat) (hs : fromTo i n = fromTo i j ++ fromTo j n) {Ds : List Prop} (hc : runCD tt N ops (fromTo i j) T = some Ds) (hD : allP Ds)
    (h : RD P tt N ops (fromTo j n) (runED tt ops (fromTo i j) T) H K) : RD P tt N ops (fromTo i n) T H K := by
  rw [hs]; exact RD_run hc hD h

theorem D_all {Ds : List Prop} (hc : runCD tt N ops (fromTo i n) T = some Ds) (hD : allP Ds) (h : K (runED tt ops (fromTo i n) T) H) : RD P tt N ops (fromTo i n) T H K := by
  have := RD_run (P := P) (js := []) (H := H) (K := K) hc hD h
  rwa [List.append_nil] at this

theorem D_end (hs : fromTo i n = []) (h : K T H) : RD P tt N ops (fromTo i n) T H K := by rw [hs]; exact h

theorem D_mono {K' : PE → Heap → Prop} : ∀ {is : List Nat} {T : PE} {H : Heap}, RD P tt N ops is T H K → (∀ T H, K T H → K' T H) → RD P tt N ops is T H K'
  | [], _, _, h, hk => hk _ _ h
  | _ :: _, _, _, ⟨o, ho, h⟩, hk => ⟨o, ho, OpD_mono (fun _ _ hr => D_mono hr hk) h⟩

/-- A test is known. -/
theorem D_known {is : List Nat} {t : Nat} {e b : Bool} (ht : T t = some (.lit (.bool e))) (he : e = b) (h : RD P tt N ops is (T.set t (.lit (.bool b))) H K) : RD P tt N ops is T H K := by
  subst he
  have : T.set t (.lit (.bool e)) = T := by
    funext u
    simp only [PE.set]
    cases hb : Nat.beq u t with
    | false => rfl
    | true => rw [Nat.eq_of_beq_eq_true hb, ht]
  rwa [this] at h

theorem D_eff {op : Op} (hs : fromTo i n = i :: fromTo (i + 1) n) (hp : plainAt N ops i = some op) (h : effW P tt (lift T) [] op H (fun x H' => RD P tt N ops (fromTo (i + 1) n) (T.setO (dstAt ops i) x) H' K)) :
    RD P tt N ops (fromTo i n) T H K := by
  rw [hs]
  obtain ⟨o, ho, rfl, hctx, hd, hdst⟩ := plainAt_spec (T := fun _ => none) hp
  rw [hdst] at h
  have hg : guardV ops T o = some true := by
    unfold plainAt at hp
    rw [ho] at hp
    simp only at hp
    split at hp
    · rename_i hgd _; unfold guardV; rw [hgd]
    · simp at hp
  have hdk : dOk N o = true := by
    unfold dstOk at hd; unfold dOk
    split <;> simp_all
  exact ⟨o, ho, hdk, true, hg, ⟨fun _ => .inr h, fun h => by simp at h⟩⟩

theorem D_call {fid : Nat} {as : List V} (hs : fromTo i n = i :: fromTo (i + 1) n) (hd : decCall N ops (lift T) i = some (fid, as)) {Q : V → Heap → Prop} (hc : ACall P fid as H Q)
    (h : ∀ r H', Q r H' → RD P tt N ops (fromTo (i + 1) n) (T.setO (dstAt ops i) r) H' K) : RD P tt N ops (fromTo i n) T H K := by
  unfold decCall at hd
  split at hd
  · rename_i f args tys hp
    split at hd
    · rename_i ys cs xs hf hx
      simp at hd; obtain ⟨rfl, rfl⟩ := hd
      refine D_eff hs hp ?_
      refine ⟨_, xs, ys, cs, hf, hx, ?_⟩
      simpa using hc.mono h
    · simp at hd
  · simp at hd

theorem D_append {s x : V} {te : TyE} {es ys : List V} (hs : fromTo i n = i :: fromTo (i + 1) n) (hd : decApp tt N ops (lift T) i = some (s, x, te)) (he : appS te.size H s = some es) (hy : appX te.size H x = some ys)
    (hb : (es.length + ys.length) * te.bytes ≤ 140737488355328) (h63 : es.length + ys.length ≤ 9223372036854775807)
    (h : RD P tt N ops (fromTo (i + 1) n) (T.setO (dstAt ops i) (.msl te.size H.length 0 (es.length + ys.length))) (appH te.size H s (es ++ ys)) K) : RD P tt N ops (fromTo i n) T H K := by
  unfold decApp at hd
  split at hd
  · rename_i args tys hp
    split at hd
    · rename_i s' x' t t' hev h0 h1 h2
      split at hd
      · rename_i e _ _ _ e' _ _ _ ht ht'
        split at hd
        · rename_i te' hte
          split at hd
          · rename_i hz
            simp at hd; obtain ⟨rfl, rfl, rfl⟩ := hd
            refine D_eff hs hp ?_
            exact ⟨_, _, t, t', e, e', _, es, ys, hev, two_of h0 h1 h2, ⟨_, _, _, ht⟩, ⟨_, _, _, ht'⟩, hte, hz, he, hy, hb, h63, h⟩
          · simp at hd
        · simp at hd
      · simp at hd
    · simp at hd
  · simp at hd

theorem D_bsl {xs : List V} {k : Nat} (hs : fromTo i n = i :: fromTo (i + 1) n) (hd : decBsl tt N ops (lift T) i = some (xs, k))
    (h : RD P tt N ops (fromTo (i + 1) n) (T.setO (dstAt ops i) (frozenOf xs)) H K) : RD P tt N ops (fromTo i n) T H K := by
  unfold decBsl at hd
  split at hd
  · rename_i t k' parts hp
    split at hd
    · rename_i ys e _ _ _ hb ht
      split at hd
      · rename_i te hte
        simp at hd; obtain ⟨rfl, rfl⟩ := hd
        refine D_eff hs hp ?_
        exact ⟨_, hb, .inl h⟩
      · simp at hd
    · simp at hd
  · simp at hd

end drawn

end Go.Abs
