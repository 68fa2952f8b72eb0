/- What the law HopForgets stands on: the framework, the given functions as plain functions, their walks, and the plain laws; part 5. -/
import Derived.Test.YteecjdpicjpnfaaHopForgetsZ4
set_option linter.unusedSimpArgs false
set_option linter.unusedVariables false
namespace Go.Abs
open Go
theorem Up.weaken {a b : Int} {f : List aB} (h : Up b f) (hab : a ≤ b) : Up a f := by
  cases f with
  | nil => trivial
  | cons j r => exact ⟨⟨by have := h.1.1; omega, h.1.2⟩, h.2⟩

theorem mF.up : ∀ {f : List aB} {last : Int}, mF last f → Up last f
  | [], _, _ => trivial
  | _ :: _, _, h => ⟨⟨h.1.1, h.1.2.1, h.1.2.2.1⟩, h.2.up⟩

theorem Up.ext : ∀ {f g : List aB} {last : Int}, Up last f → Up last g → (∀ t, last < t → t < 1125899906842624 → val f t = val g t) → f = g
  | [], [], _, _, _, _ => rfl
  | j :: r, [], last, hf, _, h => by
    have := h j.At hf.1.1 hf.1.2.1
    rw [fD, if_pos (Int.le_refl _), hf.2.xP (Int.le_refl _), AT] at this
    exact absurd (by omega) hf.1.2.2
  | [], k :: s, last, _, hg, h => by
    have := h k.At hg.1.1 hg.1.2.1
    rw [fD, if_pos (Int.le_refl _), hg.2.xP (Int.le_refl _), AT] at this
    exact absurd (by omega) hg.1.2.2
  | j :: r, k :: s, last, hf, hg, h => by
    have h1 := h j.At hf.1.1 hf.1.2.1
    have h2 := h k.At hg.1.1 hg.1.2.1
    rw [fD, if_pos (Int.le_refl _), hf.2.xP (Int.le_refl _), fD] at h1
    rw [fD, fD k, if_pos (Int.le_refl _), hg.2.xP (Int.le_refl _)] at h2
    have n1 := hf.1.2.2
    have n2 := hg.1.2.2
    have he : j.At = k.At := by
      rcases Int.lt_trichotomy j.At k.At with h3 | h3 | h3
      · rw [if_neg (by omega), hg.2.xP (by omega)] at h1; omega
      · exact h3
      · rw [if_neg (by omega), hf.2.xP (by omega)] at h2; omega
    rw [if_pos (by omega), hg.2.xP (by omega)] at h1
    have hj : j = k := by
      obtain ⟨a, b⟩ := j; obtain ⟨c, d⟩ := k
      simp only at he h1
      simp only [Int.add_zero] at h1
      rw [he, h1]
    subst hj
    rw [hf.2.ext hg.2 (fun t ht ht' => by
      have := h t (by have := hf.1.1; omega) ht'
      rw [fD, fD] at this; omega)]

def Inc (last : Int) : List Int → Prop
  | [] => True
  | p :: r => (last < p ∧ p < 1125899906842624) ∧ Inc p r

theorem Inc.above : ∀ {ps : List Int} {last : Int}, Inc last ps → ∀ p ∈ ps, last < p ∧ p < 1125899906842624
  | [], _, _, j, hj => by simp at hj
  | a :: r, last, h, j, hj => by
    rcases List.mem_cons.1 hj with rfl | hj
    · exact h.1
    · have := h.2.above j hj
      have h1 := h.1.1
      exact ⟨by omega, this.2⟩

theorem mF.restrict {l m : Int} {k : aB} {g : List aB} (h : mF l (k :: g)) (hm : m < k.At) : mF m (k :: g) := ⟨⟨hm, h.1.2⟩, h.2⟩

end Go.Abs
namespace Go.Abs
open Go
theorem aAE {f : List aB} (h : eY f = true) : ∀ j ∈ f, j.Net ≤ 1048576 ∧ -1048576 ≤ j.Net := fun j hj => by have := (mL.1 h).2.above j hj; omega

def mY (t : Int) : List Int → List Int
  | [] => [t]
  | p :: r => if p = t then p :: r else if t < p then t :: p :: r else p :: mY t r

theorem KX {t x : Int} : ∀ {ps : List Int}, x ∈ mY t ps ↔ x = t ∨ x ∈ ps
  | [] => by simp [mY]
  | p :: r => by
    unfold mY
    split
    · rename_i h; subst h; simp
    · split
      · simp
      · simp only [List.mem_cons, KX (ps := r)]; constructor <;> (intro h; rcases h with h | h | h <;> simp [h])

theorem EI {t : Int} : ∀ {ps : List Int} {last : Int}, Inc last ps → last < t → t < 1125899906842624 → Inc last (mY t ps)
  | [], last, _, h1, h2 => ⟨⟨h1, h2⟩, trivial⟩
  | p :: r, last, h, h1, h2 => by
    unfold mY
    split
    · exact h
    · split
      · rename_i h3 h4
        exact ⟨⟨h1, h2⟩, ⟨h4, h.1.2⟩, h.2⟩
      · exact ⟨h.1, EI h.2 (by omega) h2⟩

theorem HG {t : Int} : ∀ {ps : List Int} {last : Int}, Inc last ps → t ∈ ps → mY t ps = ps
  | [], _, _, h => by simp at h
  | p :: r, last, hi, h => by
    unfold mY
    split
    · rfl
    · rename_i hp
      rcases List.mem_cons.1 h with h | h
      · exact absurd h.symm hp
      · have := (hi.2.above t h).1
        rw [if_neg (by omega), HG hi.2 h]

end Go.Abs
namespace Go.Abs
open Go
def mn (a b : Int) : Int := if b < a then b else a

def parts (v : Int) : List aB → List Int
  | [] => []
  | j :: r => (v + j.Net) :: parts (v + j.Net) r

def AW (f : List aB) : Int := (f.map fun j => val f j.At).foldl mn (val f (-1))

theorem parts_eq : ∀ {f : List aB} {l v : Int}, mF l f → parts v f = f.map fun j => v + val f j.At
  | [], _, _, _ => rfl
  | j :: r, l, v, h => by
    simp only [parts, List.map_cons]
    rw [parts_eq h.2, fD, if_pos (Int.le_refl _), h.2.xP (Int.le_refl _), Int.add_zero]
    congr 1
    apply List.map_congr_left
    intro k hk
    have := (h.2.above k hk).1
    rw [fD, if_pos (by omega)]; omega

theorem VP {j : aB} {r : List aB} (h : mF (-2) (j :: r)) : val (j :: r) (-1) = if j.At = -1 then j.Net else 0 := by
  have := h.1.1
  by_cases e : j.At = -1
  · rw [if_pos e, fD, if_pos (by omega), h.2.xP (by omega)]; omega
  · rw [if_neg e, oT]
    intro k hk
    rcases List.mem_cons.1 hk with rfl | hk
    · omega
    · have := (h.2.above k hk).1; omega

theorem HL {f : List aB} (hf : eY f = true) (m : Int) (hm : -1125899906842624 ≤ m ∧ m ≤ 1125899906842624) : qT 0 m f (f.length : Nat) 0 = some ((f.map fun j => val f j.At).foldl mn m) := by
  obtain ⟨hl, hr⟩ := mL.1 hf
  unfold qT
  rw [BC (l := f) (body := fun s : Int × Int × Int => mD f (f.length : Nat) s.1 s.2.1 s.2.2) (fun (s : Int × Int) i => (s.1, s.2, i)) (fun s r => (parts s.1 r).foldl mn s.2)
    (fun s r => (∀ j ∈ r, j.Net ≤ 1048576 ∧ -1048576 ≤ j.Net) ∧ r.length ≤ 1024 ∧ s.1 ≤ 1048576 * (1024 - r.length) ∧ -(1048576 * (1024 - r.length)) ≤ s.1) (0, m) ?_ ?_ ?_]
  · simp only [Option.bind_some, qR, parts_eq hr, Int.zero_add]
  · rintro i a r ⟨v, m⟩ ha ⟨h1, h2, h3, h4⟩
    obtain ⟨d1, d2, d3, d4⟩ := idx ha (by omega)
    have hj := h1 a (List.mem_cons_self ..)
    simp only [List.length_cons] at h2 h3 h4
    have hw : IntKind.i64.wrap (v + a.Net) = v + a.Net := eH (by omega) (by omega)
    left
    refine ⟨(v + a.Net, mn m (v + a.Net)), ?_, ⟨fun j hj => h1 j (List.mem_cons_of_mem _ hj), by omega, by simp only; omega, by simp only; omega⟩, rfl⟩
    show mD f (f.length : Nat) v m i = _
    simp only [mD, d1, cond_true, aQ d2, d3, d4, hw, mn]
  · rintro ⟨v, m⟩ _
    show mD f (f.length : Nat) v m (f.length : Nat) = _
    simp only [mD, lY, cond_false, parts, List.foldl_nil]
  · exact ⟨aAE hf, hl, by simp only; omega, by simp only; omega⟩

theorem ZB (f : List aB) : rY f = some (if eY f then AW f else 0) := by
  unfold rY
  rw [AM]
  cases h : eY f
  · simp
  · cases f with
    | nil => simp [AW, val]
    | cons j r =>
      obtain ⟨hl, hr⟩ := mL.1 h
      have hne : decide (((List.length (j :: r) : Nat) : Int) = 0) = false := by simp; omega
      simp only [Option.bind_some, Bool.not_true, Bool.false_or, hne, cond_false, aQ aCK, aBN, if_true]
      have hj := hr.1
      unfold AW
      rw [VP hr]
      by_cases e : j.At = -1
      · simp only [e, decide_true, cond_true, if_true, oM]
        exact HL h j.Net (by omega)
      · simp only [e, decide_false, cond_false, if_false, oM]
        exact HL h 0 (by omega)

theorem KI {s t : Int} (hst : s ≤ t) : ∀ {f : List aB}, (∀ j ∈ f, ¬ (s < j.At ∧ j.At ≤ t)) → val f s = val f t
  | [], _ => rfl
  | j :: r, h => by
    have hj := h j (List.mem_cons_self ..)
    rw [fD, fD, KI hst (fun k hk => h k (List.mem_cons_of_mem _ hk))]
    by_cases e : j.At ≤ s
    · rw [if_pos e, if_pos (by omega)]
    · rw [if_neg e, if_neg (by omega)]

theorem KG : eY [] = true := by decide

theorem OM {t l' : Int} (hl : l' < t) : ∀ {f : List aB} {l : Int}, mF l f → Up l' (aft t f)
  | [], _, _ => trivial
  | j :: r, l, h => by
    unfold aft
    split
    · exact (h.restrict (m := l') (by omega)).up
    · exact OM hl h.2

theorem aAb {f : List aB} {t : Int} (hf : eY f = true) (ht : -1 < t) : Up (-2) (vS t f) := by
  have hr := (mL.1 hf).2
  unfold vS
  split
  · simpa using OM (l' := -2) (by omega) hr
  · rename_i hn
    exact ⟨⟨by show (-2 : Int) < -1; omega, by show (-1 : Int) < _; omega, hn⟩, OM (l' := -1) ht hr⟩

theorem LP {f : List aB} {t : Int} (hf : eY f = true) (p : Int) (hp : -1 ≤ p) : val (vS t f) p = val f (if p < t then t - 1 else p) := by
  have hr := (mL.1 hf).2
  unfold vS
  rw [BK]
  have e1 : val (if pP (jM t f) = 0 then [] else [⟨-1, pP (jM t f)⟩]) p = pP (jM t f) := by
    split
    · rename_i h0; rw [h0]; rfl
    · rw [fD, AT, if_pos (show (⟨-1, pP (jM t f)⟩ : aB).At ≤ p from hp)]; simp
  rw [e1]
  by_cases h : p < t
  · rw [if_pos h, oT (f := aft t f) (fun j hj => by have := OX hr j hj; omega), ← VH hr]; omega
  · rw [if_neg h, aBH hr (t := t) (by omega)]

end Go.Abs
namespace Go.Abs
open Go
theorem w1 : IntKind.i64.wrap (0 + 1) = 1 := by rw [eH] <;> omega

theorem w2 : IntKind.i64.wrap (1 + 1) = 2 := by rw [eH] <;> omega

theorem w3 : IntKind.i64.wrap (1 - 1) = 0 := by rw [eH] <;> omega

theorem v0 : IntKind.i64.wrap 0 = 0 := by rw [eH] <;> omega

theorem v1 : IntKind.i64.wrap 1 = 1 := by rw [eH] <;> omega

theorem v2 : IntKind.i64.wrap 2 = 2 := by rw [eH] <;> omega

theorem v3 : IntKind.i64.wrap (-1) = -1 := by rw [eH] <;> omega

end Go.Abs
namespace Go.Abs
open Go
theorem ZL (f : List aB) : (told f).1.length ≤ 1024 := by
  unfold told
  cases h : eY f
  · simp
  · simpa using (mL.1 h).1

theorem aAq (f : List aB) (t : Int) : (rest f t).1.length ≤ 1024 := by
  unfold rest
  split
  · split
    · simp
    · split
      · exact (mL.1 (by assumption)).1
      · exact ZL _
  · simp

end Go.Abs
namespace Go.Abs
open Go
variable {α : Type} [Inhabited α]
noncomputable def nV (f1 : α → Option Bool) (s0 : (List α)) (t7 : Int) (t8 : Int) : Option ((Int) ⊕ (Unit ⊕ Int)) :=
  cond (decide (t8 < t7))
  (bG (0 ≤ t8 ∧ t8 < ((List.length s0 : Nat) : Int)) <|
  (f1 (List.getD s0 (Int.toNat t8) default)).bind fun x2 =>
  cond x2
  (some (.inr (.inr t8)))
  (some (.inl (IntKind.i64.wrap (t8 + (1 : Int))))))
  (some (.inr (.inl ())))

theorem PI {l : List α} {f : α → Option Bool} {g : α → Bool} (hl : l.length ≤ 1099511627776) (hf : ∀ x ∈ l, f x = some (g x)) : ∀ (r : List α) (k : Nat), l.drop k = r → k ≤ l.length →
    ∃ x, lp (fun s => nV f l (l.length : Nat) s) (k : Int) = some x ∧ ((x = .inl () ∧ r.any g = false) ∨ (∃ i : Nat, x = .inr (i : Int) ∧ k ≤ i ∧ i < l.length ∧ r.any g = true ∧ g (l.getD i default) = true ∧ ∀ j, k ≤ j → j < i → g (l.getD j default) = false))
  | [], k, hd, hk => by
    have : k = l.length := by
      have := congrArg List.length hd
      simp only [List.length_drop, List.length_nil] at this; omega
    subst this
    refine ⟨.inl (), cV ?_, Or.inl ⟨rfl, rfl⟩⟩
    show nV f l _ _ = _
    simp only [nV, lY, cond_false]
  | a :: r, k, hd, hk => by
    obtain ⟨h1, h2⟩ := drop_cons hd
    have hlt : k < l.length := (List.getElem?_eq_some_iff.1 h1).1
    obtain ⟨d1, d2, d3, d4⟩ := idx h1 (by omega)
    have hga : l.getD k default = a := by rw [Int.toNat_natCast] at d3; exact d3
    have hb : (fun s => nV f l (l.length : Nat) s) (k : Int) = some (if g a then .inr (.inr (k : Int)) else .inl ((k + 1 : Nat) : Int)) := by
      show nV f l _ _ = _
      simp only [nV, d1, cond_true, aQ d2, d3, d4, hf a (List.mem_of_getElem? h1), Option.bind_some]
      cases g a <;> simp
    cases hg : g a
    · rw [hg] at hb
      obtain ⟨x, e, hx⟩ := PI hl hf r (k + 1) h2 (by omega)
      refine ⟨x, by rw [gF hb]; exact e, ?_⟩
      rcases hx with ⟨rfl, h⟩ | ⟨i, rfl, h3, h4, h5, h6, h7⟩
      · exact Or.inl ⟨rfl, by simp [hg, h]⟩
      · refine Or.inr ⟨i, rfl, by omega, h4, by simp [h5], h6, fun j hj hj' => ?_⟩
        by_cases e : j = k
        · subst e; rw [hga, hg]
        · exact h7 j (by omega) hj'
    · rw [hg] at hb
      exact ⟨.inr (k : Int), cV hb, Or.inr ⟨k, rfl, Nat.le_refl _, hlt, by simp [hg], by rw [hga, hg], fun j h h' => by omega⟩⟩

end Go.Abs
namespace Go.Abs
open Go
theorem LH (x y : ByteArray) : nP x y = decide (x = y) := by
  unfold nP
  rw [ByteArray.toList_eq, ByteArray.toList_eq]
  by_cases h : x = y
  · simp [h]
  · have : x.data.toList ≠ y.data.toList := by
      intro he
      apply h
      cases x; cases y
      congr 1
      exact Array.toList_inj.1 he
    have h2 : (x.data.toList == y.data.toList) = false := by simpa using this
    rw [h2]; simp [h]

theorem veq (a b : aE) : ((decide (a.Kind = b.Kind)) && ((decide (a.Num = b.Num)) && ((nP a.Text b.Text) && true))) = decide (a = b) := by
  rw [LH]
  obtain ⟨a1, a2, a3⟩ := a
  obtain ⟨b1, b2, b3⟩ := b
  by_cases h1 : a1 = b1 <;> by_cases h2 : a2 = b2 <;> by_cases h3 : a3 = b3 <;> simp [h1, h2, h3]

def CB (v : aE) : Bool := decide (v.Kind = 1) && nP v.Text (⟨#[]⟩ : ByteArray)

def CD (v : aE) : Bool := ((decide (v.Kind = 2)) && (decide (v.Num = 0))) && (decide (((ByteArray.size v.Text : Nat) : Int) ≤ 64))

def BO (v : aE) : Bool := CB v || CD v

def sF (r : List aE) : Bool := decide (r.length ≤ 8) && r.all BO

theorem of_eq (v : aE) : lF v = some (if CB v then (.k_number v.Num, true) else if CD v then (.k_words v.Text, true) else (.none_, false)) := by
  unfold lF CB CD
  cases (decide (v.Kind = 1) && nP v.Text (⟨#[]⟩ : ByteArray)) <;> cases (((decide (v.Kind = 2)) && (decide (v.Num = 0))) && (decide (((ByteArray.size v.Text : Nat) : Int) ≤ 64))) <;> rfl

theorem aBf (v : aE) : tX v = some (BO v) := by
  unfold tX BO
  rw [of_eq]
  cases CB v <;> cases CD v <;> rfl

theorem PF {l : List aE} {f : aE → Option Bool} {g : aE → Bool} (hl : l.length ≤ 1099511627776) (hf : ∀ x ∈ l, f x = some (g x)) : eV l f = some (l.any g) := by
  unfold eV iF iB
  obtain ⟨x, e, hx⟩ := PI hl hf l 0 rfl (Nat.zero_le _)
  have e' : lp (fun s => iC f l (l.length : Nat) s) 0 = some x := e
  rw [e']
  rcases hx with ⟨rfl, h⟩ | ⟨i, rfl, _, _, h, _⟩
  · simp [fE, h]
  · simp [h]

theorem JK (r : List aE) : sV r = some (sF r) := by
  unfold sV sF
  by_cases h : r.length ≤ 8
  · have h1 : decide ((8 : Int) < ((r.length : Nat) : Int)) = false := by simp; omega
    rw [h1, cond_false, PF (g := fun v => !BO v) (by omega) (fun x _ => by simp [tZ, aBf])]
    simp only [Option.bind_some, h, decide_true, Bool.true_and]
    congr 1
    rw [List.all_eq_not_any_not]
  · have h1 : decide ((8 : Int) < ((r.length : Nat) : Int)) = true := by simp; omega
    rw [h1, cond_true]
    simp [h]

theorem UK {α : Type} [DecidableEq α] {f g : List α} {body : Int → Option (Int ⊕ (Unit ⊕ Bool))} (he : f.length = g.length)
    (hb : ∀ (i : Nat) a b, f[i]? = some a → g[i]? = some b → body i = some (if a = b then .inl ((i + 1 : Nat) : Int) else .inr (.inr false)))
    (hend : body (f.length : Nat) = some (.inr (.inl ()))) : ∀ (m k : Nat), f.length - k = m → k ≤ f.length → lp body (k : Int) = some (if f.drop k = g.drop k then .inl () else .inr false)
  | 0, k, hm, hk => by
    have : k = f.length := by omega
    subst this
    rw [List.drop_length, he, List.drop_length, if_pos rfl]
    rw [← he]
    exact cV hend
  | m + 1, k, hm, hk => by
    have h1 : k < f.length := by omega
    have h2 : k < g.length := by omega
    have hbk := hb k _ _ (List.getElem?_eq_getElem h1) (List.getElem?_eq_getElem h2)
    have e1 : f.drop k = f[k] :: f.drop (k + 1) := List.drop_eq_getElem_cons h1
    have e2 : g.drop k = g[k] :: g.drop (k + 1) := List.drop_eq_getElem_cons h2
    have hiff : (f.drop k = g.drop k) ↔ (f[k] = g[k] ∧ f.drop (k + 1) = g.drop (k + 1)) := by rw [e1, e2, List.cons.injEq]
    by_cases h : f[k] = g[k]
    · rw [if_pos h] at hbk
      rw [gF hbk, UK he hb hend m (k + 1) (by omega) (by omega)]
      simp only [hiff, h, true_and]
    · rw [if_neg h] at hbk
      rw [cV hbk]
      simp only [hiff, h, false_and, if_false]

theorem YE {α : Type} {f g : List α} (h : f.length ≠ g.length) : (!decide (((f.length : Nat) : Int) = ((g.length : Nat) : Int))) = true := by simp; omega

theorem HU {α : Type} {f g : List α} (h : f.length = g.length) : (!decide (((f.length : Nat) : Int) = ((g.length : Nat) : Int))) = false := by simp [h]

theorem IV (a b : List aE) (hl : a.length ≤ 17592186044416) : qB a b = some (decide (a = b)) := by
  unfold qB jK
  by_cases he : a.length = b.length
  · rw [HU he, cond_false]
    unfold jG
    have := UK (f := a) (g := b) (body := fun s => eX a b (a.length : Nat) s) he ?_ ?_ a.length 0 rfl (Nat.zero_le _)
    · simp only [Int.natCast_zero, List.drop_zero] at this
      rw [this]
      by_cases h : a = b <;> simp [h, gL]
    · intro i x y hx hy
      obtain ⟨d1, d2, d3, d4⟩ := idx hx (by omega)
      obtain ⟨_, e2, e3, _⟩ := idx hy (by omega)
      simp only [eX, d1, cond_true, aQ d2, aQ e2, d3, e3, d4, veq]
      by_cases h : x = y <;> simp [h]
    · simp only [eX, lY, cond_false]
  · rw [YE he, cond_true]
    have : a ≠ b := fun h => he (by rw [h])
    simp [this]

theorem MO (a b : List aE) (hl : a.length ≤ 17592186044416) : sN a b = some (decide (a = b)) := by
  unfold sN
  by_cases he : a.length = b.length
  · rw [HU he, cond_false]
    unfold uI
    have := UK (f := a) (g := b) (body := fun s => oJ a b s) he ?_ ?_ a.length 0 rfl (Nat.zero_le _)
    · simp only [Int.natCast_zero, List.drop_zero] at this
      rw [this]
      by_cases h : a = b <;> simp [h, rD]
    · intro i x y hx hy
      obtain ⟨d1, d2, d3, d4⟩ := idx hx (by omega)
      obtain ⟨_, e2, e3, _⟩ := idx hy (by omega)
      simp only [oJ, d1, cond_true, aQ d2, aQ e2, d3, e3, d4, veq]
      by_cases h : x = y <;> simp [h]
    · simp only [oJ, lY, cond_false]
  · rw [YE he, cond_true]
    have : a ≠ b := fun h => he (by rw [h])
    simp [this]

structure DD {α : Type} (c : α → α → Int) : Prop where
  eq : ∀ a b, c a b = 0 ↔ a = b
  anti : ∀ a b, c a b < 0 ↔ 0 < c b a
  trans : ∀ a b d, c a b < 0 → c b d < 0 → c a d < 0

def qP (x y : Int) : Int := if x < y then -1 else if y < x then 1 else 0

theorem zM : DD qP where
  eq a b := by unfold qP; (repeat' split) <;> omega
  anti a b := by unfold qP; (repeat' split) <;> omega
  trans a b d := by unfold qP; (repeat' split) <;> omega

def kZ {α : Type} [DecidableEq α] (c : α → α → Int) : List α → List α → Int
  | [], [] => 0
  | [], _ :: _ => -1
  | _ :: _, [] => 1
  | a :: r, b :: s => if a = b then kZ c r s else c a b

theorem DD.list {α : Type} [DecidableEq α] {c : α → α → Int} (h : DD c) : DD (kZ c) where
  eq := by
    intro a
    induction a with
    | nil => intro b; cases b <;> simp [kZ]
    | cons x r ih =>
      intro b
      cases b with
      | nil => simp [kZ]
      | cons y s =>
        unfold kZ
        split
        · rename_i e; subst e; rw [ih]; simp
        · rename_i e
          have := h.eq x y
          constructor
          · intro h0; exact absurd (this.1 h0) e
          · intro h0; cases h0; exact absurd rfl e
  anti := by
    intro a
    induction a with
    | nil => intro b; cases b <;> simp [kZ]
    | cons x r ih =>
      intro b
      cases b with
      | nil => simp [kZ]
      | cons y s =>
        unfold kZ
        by_cases e : x = y
        · subst e; simp only [if_true]; exact ih s
        · rw [if_neg e, if_neg (fun e' => e e'.symm)]; exact h.anti x y
  trans := by
    intro a
    induction a with
    | nil =>
      intro b d
      cases b <;> cases d <;> simp [kZ]
    | cons x r ih =>
      intro b d
      cases b with
      | nil => simp [kZ]
      | cons y s =>
        cases d with
        | nil => simp [kZ]
        | cons z t =>
          unfold kZ
          by_cases e1 : x = y
          · subst e1
            rw [if_pos rfl]
            by_cases e2 : x = z
            · subst e2; rw [if_pos rfl, if_pos rfl]; exact ih s t
            · rw [if_neg e2, if_neg e2]; exact fun _ h => h
          · rw [if_neg e1]
            by_cases e2 : y = z
            · have hz : ¬ x = z := fun e => e1 (e.trans e2.symm)
              intro h _
              rw [if_neg hz, ← e2]; exact h
            · rw [if_neg e2]
              intro h1 h2
              by_cases e3 : x = z
              · subst e3
                have h3 := (h.anti x y).1 h1
                omega
              · rw [if_neg e3]; exact h.trans x y z h1 h2

def GR (a b : UInt8) : Int := if a < b then -1 else if b < a then 1 else 0

theorem GH : DD GR where
  eq a b := by
    unfold GR
    constructor
    · intro h
      split at h
      · cases h
      · split at h
        · cases h
        · rename_i h1 h2
          rw [UInt8.lt_iff_toNat_lt] at h1 h2
          exact UInt8.toNat_inj.1 (by omega)
    · rintro rfl
      have : ¬ a < a := by rw [UInt8.lt_iff_toNat_lt]; omega
      simp [this]
  anti a b := by
    unfold GR
    simp only [UInt8.lt_iff_toNat_lt]
    (repeat' split) <;> omega
  trans a b d := by
    unfold GR
    simp only [UInt8.lt_iff_toNat_lt]
    (repeat' split) <;> omega

theorem zR : ∀ (a b : List UInt8), Go.Lib.compareBytes a b = kZ GR a b
  | [], [] => rfl
  | [], _ :: _ => rfl
  | _ :: _, [] => rfl
  | a :: r, b :: s => by
    unfold Go.Lib.compareBytes kZ
    rw [zR r s]
    by_cases e : a = b
    · subst e
      have : ¬ a < a := by rw [UInt8.lt_iff_toNat_lt]; omega
      simp [this]
    · rw [if_neg e]
      unfold GR
      have : ¬ (¬ a < b ∧ ¬ b < a) := by
        rintro ⟨h1, h2⟩
        rw [UInt8.lt_iff_toNat_lt] at h1 h2
        exact e (UInt8.toNat_inj.1 (by omega))
      by_cases h1 : a < b
      · simp [h1]
      · have h2 : b < a := Classical.byContradiction fun h2 => this ⟨h1, h2⟩
        simp [h1, h2]

def NU (a b : ByteArray) : Int := kZ GR a.data.toList b.data.toList

theorem aBF (a b : ByteArray) : JH a b = NU a b := zR _ _

theorem data_inj {x y : ByteArray} (h : x.data.toList = y.data.toList) : x = y := by
  cases x; cases y
  congr 1
  exact Array.toList_inj.1 h

theorem BR : DD NU where
  eq a b := by unfold NU; rw [(GH.list).eq]; exact ⟨data_inj, fun h => by rw [h]⟩
  anti a b := (GH.list).anti _ _
  trans a b d := (GH.list).trans _ _ _

def yR (a b : aE) : Int := if a.Kind = b.Kind then (if a.Num = b.Num then NU a.Text b.Text else qP a.Num b.Num) else qP a.Kind b.Kind

theorem aAz : DD yR where
  eq a b := by
    obtain ⟨a1, a2, a3⟩ := a
    obtain ⟨b1, b2, b3⟩ := b
    unfold yR
    simp only [aE.mk.injEq]
    by_cases h1 : a1 = b1
    · by_cases h2 : a2 = b2
      · simp [h1, h2, BR.eq]
      · simp [h1, h2, zM.eq]
    · simp [h1, zM.eq]
  anti a b := by
    unfold yR
    by_cases h1 : a.Kind = b.Kind
    · rw [if_pos h1, if_pos h1.symm]
      by_cases h2 : a.Num = b.Num
      · rw [if_pos h2, if_pos h2.symm]; exact BR.anti _ _
      · rw [if_neg h2, if_neg (fun h => h2 h.symm)]; exact zM.anti _ _
    · rw [if_neg h1, if_neg (fun h => h1 h.symm)]; exact zM.anti _ _
  trans a b d := by
    unfold yR
    intro h1 h2
    have lt : ∀ {x y : Int}, qP x y < 0 → x < y := fun {x y} h => by unfold qP at h; split at h <;> (try split at h) <;> omega
    have mk : ∀ {x y : Int}, x < y → qP x y < 0 := fun {x y} h => by unfold qP; rw [if_pos h]; omega
    by_cases e1 : a.Kind = b.Kind
    · rw [if_pos e1] at h1
      by_cases e2 : b.Kind = d.Kind
      · rw [if_pos e2] at h2
        rw [if_pos (e1.trans e2)]
        by_cases f1 : a.Num = b.Num
        · rw [if_pos f1] at h1
          by_cases f2 : b.Num = d.Num
          · rw [if_pos f2] at h2
            rw [if_pos (f1.trans f2)]
            exact BR.trans _ _ _ h1 h2
          · rw [if_neg f2] at h2
            rw [f1, if_neg f2]; exact h2
        · rw [if_neg f1] at h1
          have g1 := lt h1
          by_cases f2 : b.Num = d.Num
          · rw [← f2, if_neg f1]; exact h1
          · rw [if_neg f2] at h2
            have g2 := lt h2
            rw [if_neg (by omega)]
            exact mk (by omega)
      · rw [if_neg e2] at h2
        rw [e1, if_neg e2]; exact h2
    · rw [if_neg e1] at h1
      have g1 := lt h1
      by_cases e2 : b.Kind = d.Kind
      · rw [← e2, if_neg e1]; exact h1
      · rw [if_neg e2] at h2
        have g2 := lt h2
        rw [if_neg (by omega)]
        exact mk (by omega)

def qM (a b : List aE) : Int := kZ yR a b

theorem wG : DD qM := aAz.list

end Go.Abs
namespace Go.Abs
open Go
theorem YC (x y : Int) : nL x y = some (qP x y) := by
  unfold nL kX qP
  by_cases h1 : x < y
  · simp [h1]
  · by_cases h2 : y < x <;> simp [h1, h2]

theorem WJ (x y : Int) : fP x y = some (qP x y) := by
  unfold fP kL qP
  by_cases h1 : x < y
  · simp [h1]
  · by_cases h2 : y < x <;> simp [h1, h2]

theorem EO {v : aE} (h : CB v = true) : v.Kind = 1 ∧ v.Text = (⟨#[]⟩ : ByteArray) := by
  simp only [CB, LH, Bool.and_eq_true, decide_eq_true_eq] at h; exact h

theorem CH {v : aE} (h : CD v = true) : v.Kind = 2 ∧ v.Num = 0 ∧ v.Text.size ≤ 64 := by
  simp only [CD, Bool.and_eq_true, decide_eq_true_eq] at h; exact ⟨h.1.1, h.1.2, by omega⟩

theorem TB {v : aE} (h : BO v = true) : CB v = true ∨ (CB v = false ∧ CD v = true) := by
  unfold BO at h
  cases hn : CB v
  · rw [hn] at h; exact .inr ⟨rfl, by simpa using h⟩
  · exact .inl rfl

theorem WU (a : ByteArray) : NU a a = 0 := (BR.eq a a).2 rfl

theorem DN (a : Int) : qP a a = 0 := (zM.eq a a).2 rfl

theorem WK {a b : aE} (ha : BO a = true) (hb : BO b = true) : oO a b = some (yR a b) := by
  unfold oO
  simp only [of_eq, Option.bind_some]
  rcases TB ha with h1 | ⟨h1, h1'⟩ <;> rcases TB hb with h2 | ⟨h2, h2'⟩
  · obtain ⟨k1, t1⟩ := EO h1
    obtain ⟨k2, t2⟩ := EO h2
    simp only [h1, h2, if_true, Bool.not_true, Bool.or_self, cond_false, WJ, Option.bind_some]
    unfold yR
    rw [k1, k2, t1, t2, if_pos rfl, WU]
    by_cases hn : a.Num = b.Num
    · rw [if_pos hn, hn, DN]
    · rw [if_neg hn]
  · obtain ⟨k1, t1⟩ := EO h1
    obtain ⟨k2, n2, _⟩ := CH h2'
    simp only [h1, h2, h2', if_true, Bool.false_eq_true, if_false, Bool.not_true, Bool.or_self, cond_false]
    unfold yR
    rw [k1, k2]; rfl
  · obtain ⟨k1, n1, _⟩ := CH h1'
    obtain ⟨k2, t2⟩ := EO h2
    simp only [h1, h1', h2, if_true, Bool.false_eq_true, if_false, Bool.not_true, Bool.or_self, cond_false]
    unfold yR
    rw [k1, k2]; rfl
  · obtain ⟨k1, n1, _⟩ := CH h1'
    obtain ⟨k2, n2, _⟩ := CH h2'
    simp only [h1, h1', h2, h2', if_true, Bool.false_eq_true, if_false, Bool.not_true, Bool.or_self, cond_false]
    unfold yR mA jJ
    rw [k1, k2, n1, n2, if_pos rfl, if_pos rfl]
    simp [aBF]

theorem SY {r : List aE} (h : sF r = true) : r.length ≤ 8 ∧ ∀ v ∈ r, BO v = true := by
  simp only [sF, Bool.and_eq_true, decide_eq_true_eq, List.all_eq_true] at h; exact h

theorem ZR {a b : List aE} {k : Nat} (hk : k = a.length ∨ k = b.length) (h1 : k ≤ a.length) (h2 : k ≤ b.length) : qM (a.drop k) (b.drop k) = qP a.length b.length := by
  rcases hk with rfl | rfl
  · rw [List.drop_length]
    by_cases h : a.length = b.length
    · rw [h, List.drop_length, DN]; rfl
    · rw [List.drop_eq_getElem_cons (by omega)]
      show (-1 : Int) = _
      unfold qP; rw [if_pos (by omega)]
  · rw [List.drop_length]
    by_cases h : a.length = b.length
    · rw [← h, List.drop_length, DN]; rfl
    · rw [List.drop_eq_getElem_cons (by omega)]
      show (1 : Int) = _
      unfold qP; rw [if_neg (by omega), if_pos (by omega)]

theorem SJ {a b : List aE} (hl : a.length ≤ 8) (hlb : b.length ≤ 8) (n : Nat) (hn : n = min a.length b.length) : ∀ (m k : Nat), n - k = m → k ≤ n →
    ∃ x, lp (fun s : Int × Int => cB (fun st y0 => (jR y0 st b).bind fun o => some (o.2, o.1)) (a.take n) (n : Nat) s.1 s.2) ((k : Int) - 1, (k : Int)) = some x ∧
      ((∃ sg, x = .inl sg ∧ qM (a.drop k) (b.drop k) = qP a.length b.length) ∨
        (∃ i : Nat, x = .inr ((i : Int), (i : Int)) ∧ i < a.length ∧ i < b.length ∧ qM (a.drop k) (b.drop k) = yR (a.getD i default) (b.getD i default)))
  | 0, k, hm, hk => by
    have : k = n := by omega
    subst this
    refine ⟨.inl ((k : Int) - 1), cV ?_, .inl ⟨_, rfl, ZR (by omega) (by omega) (by omega)⟩⟩
    show cB _ _ _ _ _ = _
    simp only [cB, lY, cond_false]
  | m + 1, k, hm, hk => by
    have h1 : k < a.length := by omega
    have h2 : k < b.length := by omega
    have ht : (a.take n)[k]? = some a[k] := by
      rw [List.getElem?_take_of_lt (by omega)]; exact List.getElem?_eq_getElem h1
    obtain ⟨d1, d2, d3, d4⟩ := idx ht (by simp; omega)
    have hlt : (a.take n).length = n := by simp; omega
    rw [hlt] at d1 d2
    obtain ⟨_, e2, e3, _⟩ := idx (List.getElem?_eq_getElem h2) (by omega)
    have hw : IntKind.i64.wrap ((k : Int) - 1 + 1) = (k : Int) := by rw [eH (by omega) (by omega)]; omega
    have hb : (fun s : Int × Int => cB (fun st y0 => (jR y0 st b).bind fun o => some (o.2, o.1)) (a.take n) (n : Nat) s.1 s.2) ((k : Int) - 1, (k : Int)) =
        some (if a[k] = b[k] then .inl ((k : Int), ((k + 1 : Nat) : Int)) else .inr (.inr ((k : Int), (k : Int)))) := by
      show cB _ _ _ _ _ = _
      simp only [cB, d1, cond_true, hlt, aQ d2, d3, d4, jR, hw, aQ e2, e3, veq, Option.bind_some]
      by_cases h : a[k] = b[k] <;> simp [h]
    have ea : a.drop k = a[k] :: a.drop (k + 1) := List.drop_eq_getElem_cons h1
    have eb : b.drop k = b[k] :: b.drop (k + 1) := List.drop_eq_getElem_cons h2
    by_cases h : a[k] = b[k]
    · rw [if_pos h] at hb
      obtain ⟨x, e, hx⟩ := SJ hl hlb n hn m (k + 1) (by omega) (by omega)
      have hc : qM (a.drop k) (b.drop k) = qM (a.drop (k + 1)) (b.drop (k + 1)) := by
        rw [ea, eb]; unfold qM; rw [kZ, if_pos h]
      refine ⟨x, ?_, by rw [hc]; exact hx⟩
      rw [gF hb]
      rw [show ((k + 1 : Nat) : Int) - 1 = (k : Int) by omega] at e
      exact e
    · rw [if_neg h] at hb
      refine ⟨_, cV hb, .inr ⟨k, rfl, h1, h2, ?_⟩⟩
      rw [ea, eb]; unfold qM; rw [kZ, if_neg h]
      simp [List.getD_eq_getElem?_getD, h1, h2]

theorem YS (a b : List aE) : qV a b = some (if sF a && sF b then qM a b else 0) := by
  unfold qV
  rw [JK]
  simp only [Option.bind_some]
  cases ha : sF a
  · simp [dG]
  · simp only [Bool.not_true, Bool.not_false, dG, cond_true, JK, Option.bind_some, Bool.false_or]
    cases hb : sF b
    · simp
    · obtain ⟨la, ma⟩ := SY ha
      obtain ⟨lb, mb⟩ := SY hb
      have hif : (if ((List.length b : Nat) : Int) < ((List.length a : Nat) : Int) then ((List.length b : Nat) : Int) else ((List.length a : Nat) : Int)) = ((min a.length b.length : Nat) : Int) := by split <;> omega
      have hlt : (a.take (min a.length b.length)).length = min a.length b.length := by rw [List.length_take]; omega
      simp only [Bool.not_true, cond_false, hif, Int.toNat_natCast, rV, Option.bind_some, gY, gT, hlt, Bool.and_self, if_true]
      rw [aQ ⟨by omega, by omega⟩]
      obtain ⟨x, e, hx⟩ := SJ (a := a) (b := b) la lb _ rfl _ 0 rfl (Nat.zero_le _)
      have e' : lp (fun s : Int × Int => cB (fun st y0 => (jR y0 st b).bind fun o => some (o.2, o.1)) (a.take (min a.length b.length)) (min a.length b.length : Nat) s.1 s.2) ((-1 : Int), (0 : Int)) = some x := e
      rw [e']
      simp only [List.drop_zero] at hx
      rcases hx with ⟨sg, rfl, h⟩ | ⟨i, rfl, h1, h2, h⟩
      · simp [eW, YC, h]
      · have hi : decide ((i : Int) < 0) = false := by simp
        simp only [Option.bind_some, Sum.elim_inr, hi, cond_false, Int.toNat_natCast]
        rw [aQ ⟨by omega, by omega⟩, aQ ⟨by omega, by omega⟩]
        have g1 : a.getD i default ∈ a := by simp [List.getD_eq_getElem?_getD, h1]
        have g2 : b.getD i default ∈ b := by simp [List.getD_eq_getElem?_getD, h2]
        rw [WK (ma _ g1) (mb _ g2), h]
        simp only [Option.bind_some]

end Go.Abs
namespace Go.Abs
open Go
def jE (e : aL) : aB := ⟨e.At, e.Net⟩

def gA (r : List aE) (f : List aB) : List aL → List (List aE × List aB)
  | [] => [(r, f)]
  | e :: l => if e.Row = r then gA r (f ++ [jE e]) l else (r, f) :: gA e.Row [jE e] l

def groups : List aL → List (List aE × List aB)
  | [] => []
  | e :: l => gA e.Row [jE e] l

def itG {σ : Type} (y : σ → List aE → List aB → Option (σ × Bool)) : List (List aE × List aB) → σ → Option σ
  | [], s => some s
  | g :: gs, s => (y s g.1 g.2).bind fun x => if x.2 then itG y gs x.1 else some x.1

def okL (l : List aL) : Prop := l.length ≤ 3518437208783 ∧ ∀ e ∈ l, e.Row.length ≤ 4398046510976

theorem yF {r : List aE} (h : r.length ≤ 4398046510976) : qF r = some r := by
  unfold qF
  rw [aQ ⟨by omega, by omega, by omega⟩, aQ (by simp only [List.length_nil, Nat.zero_add]; omega)]
  rfl

theorem JA {σ : Type} {y : σ → List aE → List aB → Option (σ × Bool)} {l : List aL} (hl : okL l) (row : List aE) (sg : σ) : ∀ (r : List aL) (k : Nat) (f : List aB), l.drop k = r → k ≤ l.length → f.length ≤ k →
    ∃ k' f', k ≤ k' ∧ k' ≤ l.length ∧ f'.length ≤ k' ∧ lp (fun s : σ × Int × List aB => jL y l row s.1 s.2.1 s.2.2) (sg, (k : Int), f) = some (sg, ((k' : Nat) : Int), f') ∧
      gA row f r = (row, f') :: groups (l.drop k') ∧ (∀ e r', r = e :: r' → e.Row = row → k < k')
  | [], k, f, hd, hk, hf => by
    have : k = l.length := by
      have := congrArg List.length hd
      simp only [List.length_drop, List.length_nil] at this; omega
    subst this
    refine ⟨l.length, f, Nat.le_refl _, Nat.le_refl _, hf, cV ?_, by simp [gA, groups], fun e r' h => by cases h⟩
    show jL _ _ _ _ _ _ = _
    simp only [jL, lY, dG, cond_false, Option.bind_some, Bool.false_and]
    exact aQ (fun h => by cases h)
  | a :: r, k, f, hd, hk, hf => by
    obtain ⟨h1, h2⟩ := drop_cons hd
    have hlt : k < l.length := (List.getElem?_eq_some_iff.1 h1).1
    obtain ⟨hll, hlr⟩ := hl
    obtain ⟨d1, d2, d3, d4⟩ := idx h1 (by omega)
    have har := hlr a (List.mem_of_getElem? h1)
    have hb : (fun s : σ × Int × List aB => jL y l row s.1 s.2.1 s.2.2) (sg, (k : Int), f) = some (if a.Row = row then .inl (sg, ((k + 1 : Nat) : Int), f ++ [jE a]) else .inr (sg, (k : Int), f)) := by
      show jL _ _ _ _ _ _ = _
      simp only [jL, d1, d3, d4, dG, cond_true, IV a.Row row (by omega), Option.bind_some, Bool.true_and]
      rw [aQ (fun _ => d2)]
      by_cases e : a.Row = row
      · simp only [e, decide_true, cond_true, if_true]
        rw [aQ d2, aQ d2, aQ (by simp only [List.length_cons, List.length_nil]; omega)]
        rfl
      · simp [e]
    by_cases e : a.Row = row
    · rw [if_pos e] at hb
      obtain ⟨k', f', g1, g2, g3, g4, g5, _⟩ := JA ⟨hll, hlr⟩ row sg r (k + 1) (f ++ [jE a]) h2 (by omega) (by simp; omega) (y := y)
      refine ⟨k', f', by omega, g2, g3, by rw [gF hb]; exact g4, by simp [gA, e, g5], fun _ _ _ _ => by omega⟩
    · rw [if_neg e] at hb
      refine ⟨k, f, Nat.le_refl _, hk, hf, cV hb, ?_, fun b r' h hr => by cases h; exact absurd hr e⟩
      rw [hd]; simp [gA, e, groups]

theorem TN {σ : Type} {y : σ → List aE → List aB → Option (σ × Bool)} {l : List aL} (hl : okL l) : ∀ (m k : Nat) (sg s' : σ), l.length - k ≤ m → k ≤ l.length → itG y (groups (l.drop k)) sg = some s' →
    ∃ x, lp (fun s : σ × Int => iL y l s.1 s.2) (sg, (k : Int)) = some x ∧ Sum.elim id id x = s' := by
  have stop : ∀ (sg s' : σ), itG y (groups (l.drop l.length)) sg = some s' → ∃ x, lp (fun s : σ × Int => iL y l s.1 s.2) (sg, ((l.length : Nat) : Int)) = some x ∧ Sum.elim id id x = s' := by
    intro sg s' h
    rw [List.drop_length] at h
    simp only [groups, itG, Option.some.injEq] at h
    refine ⟨.inl sg, cV ?_, h⟩
    show iL _ _ _ _ = _
    simp only [iL, lY, cond_false]
  intro m
  induction m with
  | zero =>
    intro k sg s' hm hk h
    have : k = l.length := by omega
    subst this; exact stop sg s' h
  | succ m ih =>
    intro k sg s' hm hk h
    by_cases he : k = l.length
    · subst he; exact stop sg s' h
    · have hlt : k < l.length := by omega
      have hd : l.drop k = l[k] :: l.drop (k + 1) := List.drop_eq_getElem_cons hlt
      obtain ⟨d1, d2, d3, d4⟩ := idx (List.getElem?_eq_getElem hlt) (by have := hl.1; omega)
      obtain ⟨k', f', g1, g2, g3, g4, g5, g6⟩ := JA hl l[k].Row sg (l.drop k) k [] rfl hk (by simp) (y := y)
      have hk' := g6 _ _ hd rfl
      have hg : groups (l.drop k) = (l[k].Row, f') :: groups (l.drop k') := by
        rw [← g5, hd]; simp [groups, gA]
      rw [hg] at h
      simp only [itG] at h
      obtain ⟨x, hx, h⟩ := aV h
      have hrow := hl.2 _ (List.getElem_mem hlt)
      have hb : (fun s : σ × Int => iL y l s.1 s.2) (sg, (k : Int)) = some (if x.2 then .inl (x.1, ((k' : Nat) : Int)) else .inr (.inr x.1)) := by
        show iL _ _ _ _ = _
        simp only [iL, d1, cond_true, aQ d2, d3, qG, g4, Option.bind_some, nY, yF hrow, hx]
        cases x.2 <;> simp
      cases hx2 : x.2
      · rw [hx2] at hb h
        simp only [Bool.false_eq_true, if_false, Option.some.injEq] at hb h
        exact ⟨_, cV hb, h⟩
      · rw [hx2] at hb h
        simp only [if_true] at hb h
        obtain ⟨z, hz1, hz2⟩ := ih k' x.1 s' (by omega) g2 h
        exact ⟨z, by rw [gF hb]; exact hz1, hz2⟩

theorem JP {σ : Type} {y : σ → List aE → List aB → Option (σ × Bool)} {l : List aL} (hl : okL l) {s s' : σ} (h : itG y (groups l) s = some s') : lU y l s = some s' := by
  unfold lU qA
  obtain ⟨x, h1, h2⟩ := TN hl l.length 0 s s' (by omega) (Nat.zero_le _) (by simpa using h)
  simp only [Int.natCast_zero] at h1
  rw [h1]
  cases x <;> simpa using h2

def ahd (last : Option (List aE)) (r : List aE) : Bool := match last with
  | none => true
  | some q => decide (qM q r < 0)

def uE (p : List aB → Bool) : Option (List aE) → List (List aE × List aB) → Bool
  | _, [] => true
  | last, g :: gs => (sF g.1 && ahd last g.1 && p g.2) && uE p (some g.1) gs

theorem SD {holds : List aB → Option Bool} {p : List aB → Bool} (hp : ∀ f, holds f = some (p f)) (c : List aL) (t : Bool) : ∀ (gs : List (List aE × List aB)) (last : List aE) (b : Bool), (b = true → sF last = true) →
    ∃ x, itG (fun st r f => rnd (fun (s : Bool × (List aE) × Bool) => nZ holds c s.1 s.2.1 s.2.2 r f) st) gs (.inl (t, last, b)) = some x ∧
      (if uE p (if b then some last else none) gs then ∃ u, x = .inl (t, u) else ∃ u, x = .inr (false, u))
  | [], last, b, _ => ⟨_, rfl, by simp [uE]⟩
  | g :: gs, last, b, hb => by
    have hy : nZ holds c t last b g.1 g.2 = some (if sF g.1 && ahd (if b then some last else none) g.1 && p g.2 then .inl (t, g.1, true) else .inr (false, last, b)) := by
      unfold nZ
      simp only [JK, Option.bind_some, YS, hp]
      cases hm : sF g.1
      · simp [dG]
      · cases b
        · cases h2 : p g.2 <;> simp [dG, ahd, h2]
        · have hl := hb rfl
          by_cases h1 : qM last g.1 < 0
          · have h1' : ¬ (0 ≤ qM last g.1) := by omega
            cases h2 : p g.2 <;> simp [dG, ahd, h2, hl, h1, h1']
          · have h1' : 0 ≤ qM last g.1 := by omega
            simp [dG, ahd, hl, h1, h1']
    cases hc : (sF g.1 && ahd (if b then some last else none) g.1 && p g.2)
    · rw [hc] at hy
      simp only [itG, rnd, hy, Option.bind_some, uE, hc]
      exact ⟨.inr (false, last, b), by simp, by simp⟩
    · rw [hc] at hy
      simp only [itG, rnd, hy, Option.bind_some, uE, hc]
      have hm : sF g.1 = true := by simp only [Bool.and_eq_true] at hc; exact hc.1.1
      obtain ⟨x, h1, h2⟩ := SD hp c t gs g.1 true (fun _ => hm)
      refine ⟨x, ?_, ?_⟩
      · simpa [rnd] using h1
      · simpa using h2

theorem SG {l : List aL} (hl : okL l) {holds : List aB → Option Bool} {p : List aB → Bool} (hp : ∀ f, holds f = some (p f)) : rG l holds = some (decide (l.length ≤ 4096) && uE p none (groups l)) := by
  unfold rG
  by_cases h : l.length ≤ 4096
  · have h1 : decide ((4096 : Int) < ((l.length : Nat) : Int)) = false := by simp; omega
    rw [h1, cond_false]
    simp only [nR, Option.bind_some, vC]
    obtain ⟨x, e1, e2⟩ := SD hp l false (groups l) [] false (fun h => by cases h)
    rw [JP hl e1]
    simp only [Bool.false_eq_true, if_false] at e2
    simp only [h, decide_true, Bool.true_and]
    cases hc : uE p none (groups l)
    · rw [hc] at e2
      simp only [Bool.false_eq_true, if_false] at e2
      obtain ⟨u, rfl⟩ := e2
      rfl
    · rw [hc] at e2
      simp only [if_true] at e2
      obtain ⟨u, rfl⟩ := e2
      rfl
  · have h1 : decide ((4096 : Int) < ((l.length : Nat) : Int)) = true := by simp; omega
    rw [h1, cond_true]
    simp [h]

def lQ (l : List aL) : Bool := decide (l.length ≤ 4096) && uE eY none (groups l)

theorem KA {l : List aL} (hl : okL l) : qJ l = some (lQ l) := by
  unfold qJ
  rw [SG hl (p := eY) (fun f => AM f)]; rfl

def JY (f : List aB) : Bool := eY f && decide (0 ≤ AW f)

def sW (l : List aL) : Bool := decide (l.length ≤ 4096) && uE JY none (groups l)

theorem LW {l : List aL} (hl : okL l) : pM l = some (sW l) := by
  unfold pM
  rw [SG hl (p := JY) (fun f => by
    unfold pT JY
    rw [AM]
    cases h : eY f <;> simp [dG, ZB, h])]
  rfl

def jX (r : List aE) (f : List aB) : List aL := f.map fun j => ⟨r, j.At, j.Net⟩

theorem put_eq {out : List aL} {r : List aE} {f : List aB} (hr : r.length ≤ 4398046510976) (hl : out.length + f.length ≤ 1099511627776) : vB out r f = some (out ++ jX r f) := by
  unfold vB wW
  rw [BC (l := f) (body := fun s : List aL × Int => nS r f (f.length : Nat) s.1 s.2) (fun o i => (o, i)) (fun o t => o ++ jX r t) (fun o t => o.length + t.length ≤ 1099511627776) out ?_ ?_ hl]
  · rfl
  · intro i a t o ha hi
    left
    obtain ⟨d1, d2, d3, d4⟩ := idx ha (by have := (List.getElem?_eq_some_iff.1 ha).1; omega)
    simp only [List.length_cons] at hi
    refine ⟨o ++ [⟨r, a.At, a.Net⟩], ?_, by simp; omega, by simp [jX]⟩
    show nS _ _ _ _ _ = _
    simp only [nS, d1, cond_true, aQ d2, d3, d4, yF hr, Option.bind_some]
    exact aQ (by simp only [List.length_cons, List.length_nil]; omega)
  · intro o _
    show nS _ _ _ _ _ = _
    simp only [nS, lY, cond_false]
    simp [jX]

def vK (by1 : List aB → List aB × Int) : List (List aE × List aB) → List aL → List aL × Int
  | [], out => (out, 0)
  | g :: gs, out => if (by1 g.2).2 ≠ 0 then ([], (by1 g.2).2) else if 4096 < (out ++ jX g.1 (by1 g.2).1).length then ([], 7) else vK by1 gs (out ++ jX g.1 (by1 g.2).1)

theorem LM {by0 : List aB → Option (List aB × Int)} {by1 : List aB → List aB × Int} (c : List aL) : ∀ (gs : List (List aE × List aB)) (out : List aL), out.length ≤ 4096 → (∀ g ∈ gs, by0 g.2 = some (by1 g.2) ∧ (by1 g.2).1.length ≤ 1024 ∧ g.1.length ≤ 4398046510976) →
    ∃ x, itG (fun st r f => rnd (fun (s : (List aL) × Int × List aL) => mK by0 c s.1 s.2.1 s.2.2 r f) st) gs (.inl ([], 0, out)) = some x ∧ Sum.elim (fun s : (List aL) × Int × List aL => (s.2.2, (0 : Int))) (fun s => (s.1, s.2.1)) x = vK by1 gs out
  | [], out, _, _ => ⟨_, rfl, rfl⟩
  | g :: gs, out, ho, hg => by
    obtain ⟨h1, h2, h3⟩ := hg g (by simp)
    have hy : mK by0 c [] 0 out g.1 g.2 = some (if (by1 g.2).2 ≠ 0 then .inr ([], (by1 g.2).2, out) else if 4096 < (out ++ jX g.1 (by1 g.2).1).length then .inr ([], 7, out ++ jX g.1 (by1 g.2).1) else .inl ([], 0, out ++ jX g.1 (by1 g.2).1)) := by
      unfold mK
      simp only [h1, Option.bind_some, put_eq h3 (show out.length + (by1 g.2).1.length ≤ 1099511627776 by omega)]
      by_cases e1 : (by1 g.2).2 = 0
      · by_cases e2 : 4096 < (out ++ jX g.1 (by1 g.2).1).length
        · have e2' : (4096 : Int) < (((out ++ jX g.1 (by1 g.2).1).length : Nat) : Int) := by omega
          simp only [e1, e2, e2', decide_true, Bool.not_true, cond_false, cond_true, ne_eq, not_true_eq_false, if_false, if_true]
        · have e2' : ¬ (4096 : Int) < (((out ++ jX g.1 (by1 g.2).1).length : Nat) : Int) := by omega
          simp only [e1, e2, e2', decide_true, decide_false, Bool.not_true, cond_false, ne_eq, not_true_eq_false, if_false]
      · simp only [e1, decide_false, Bool.not_false, cond_true, ne_eq, not_false_eq_true, if_true]
    simp only [itG, rnd, hy, Option.bind_some, vK]
    by_cases e1 : (by1 g.2).2 ≠ 0
    · rw [if_pos e1, if_pos e1]; exact ⟨_, rfl, rfl⟩
    · rw [if_neg e1, if_neg e1]
      by_cases e2 : 4096 < (out ++ jX g.1 (by1 g.2).1).length
      · rw [if_pos e2, if_pos e2]; exact ⟨_, rfl, rfl⟩
      · rw [if_neg e2, if_neg e2]
        exact LM c gs _ (by omega) (fun q hq => hg q (by simp [hq]))

theorem VJ {l : List aL} (hl : okL l) {by0 : List aB → Option (List aB × Int)} {by1 : List aB → List aB × Int} (hb : ∀ g ∈ groups l, by0 g.2 = some (by1 g.2) ∧ (by1 g.2).1.length ≤ 1024 ∧ g.1.length ≤ 4398046510976) : rC l by0 = some (vK by1 (groups l) []) := by
  unfold rC
  simp only [nR, Option.bind_some, sZ]
  obtain ⟨x, e1, e2⟩ := LM (by0 := by0) (by1 := by1) l (groups l) [] (by simp) hb
  rw [JP hl e1]
  cases x <;> simpa using e2

def flat (gs : List (List aE × List aB)) : List aL := gs.flatMap fun g => jX g.1 g.2

theorem JR : ∀ (l : List aL) (r : List aE) (f : List aB), flat (gA r f l) = jX r f ++ l
  | [], r, f => by simp [gA, flat]
  | e :: l, r, f => by
    unfold gA
    split
    · rename_i h
      rw [JR l r]
      simp [jX, jE, ← h]
    · have := JR l e.Row [jE e]
      simp only [flat, List.flatMap_cons] at this ⊢
      rw [this]
      simp [jX, jE]

theorem QZ (l : List aL) : flat (groups l) = l := by
  cases l with
  | nil => rfl
  | cons e l => unfold groups; rw [JR]; simp [jX, jE]

theorem OA {r : List aE} : ∀ {l : List aL} {f : List aB} {g : List aE × List aB}, g ∈ gA r f l → f ≠ [] → g.2 ≠ [] ∧ (g.1 = r ∨ ∃ e ∈ l, g.1 = e.Row)
  | [], f, g, h, hf => by simp only [gA, List.mem_singleton] at h; subst h; exact ⟨hf, .inl rfl⟩
  | e :: l, f, g, h, hf => by
    unfold gA at h
    split at h
    · obtain ⟨h1, h2⟩ := OA h (by simp)
      exact ⟨h1, h2.imp id fun ⟨x, hx, hx'⟩ => ⟨x, by simp [hx], hx'⟩⟩
    · rcases List.mem_cons.1 h with rfl | h
      · exact ⟨hf, .inl rfl⟩
      · obtain ⟨h1, h2⟩ := OA (r := e.Row) h (by simp)
        refine ⟨h1, .inr ?_⟩
        rcases h2 with h2 | ⟨x, hx, hx'⟩
        · exact ⟨e, by simp, h2⟩
        · exact ⟨x, by simp [hx], hx'⟩

theorem TW {l : List aL} {g : List aE × List aB} (h : g ∈ groups l) : g.2 ≠ [] ∧ ∃ e ∈ l, g.1 = e.Row := by
  cases l with
  | nil => simp [groups] at h
  | cons e l =>
    obtain ⟨h1, h2⟩ := OA h (by simp)
    refine ⟨h1, ?_⟩
    rcases h2 with h2 | ⟨x, hx, hx'⟩
    · exact ⟨e, by simp, h2⟩
    · exact ⟨x, by simp [hx], hx'⟩

end Go.Abs
namespace Go.Abs
open Go
def kD (l : List aL) (r : List aE) : List aB := (l.filter fun e => decide (e.Row = r)).map jE

theorem AQ (a b : List aL) (r : List aE) : kD (a ++ b) r = kD a r ++ kD b r := by simp [kD]

theorem MC (q : List aE) (f : List aB) (r : List aE) : kD (jX q f) r = if q = r then f else [] := by
  induction f with
  | nil => simp [kD, jX]
  | cons j f ih =>
    have h1 : jX q (j :: f) = [⟨q, j.At, j.Net⟩] ++ jX q f := rfl
    rw [h1, AQ, ih]
    by_cases h : q = r <;> simp [kD, jE, h]

def look : List (List aE × List aB) → List aE → List aB
  | [], _ => []
  | g :: gs, r => if g.1 = r then g.2 else look gs r

theorem pX (g : List aE × List aB) (gs : List (List aE × List aB)) (r : List aE) : look (g :: gs) r = if g.1 = r then g.2 else look gs r := rfl

abbrev ltG (a b : List aE × List aB) : Prop := qM a.1 b.1 < 0

abbrev rS (gs : List (List aE × List aB)) : Prop := gs.Pairwise ltG

abbrev Full (gs : List (List aE × List aB)) : Prop := ∀ g ∈ gs, g.2 ≠ []

theorem qQ {a : List aE} : ¬ qM a a < 0 := by rw [(wG.eq a a).2 rfl]; omega

theorem uY : ∀ {gs : List (List aE × List aB)} {r : List aE}, (∀ g ∈ gs, g.1 ≠ r) → look gs r = []
  | [], _, _ => rfl
  | g :: gs, r, h => by
    rw [pX]
    rw [if_neg (h g (by simp))]
    exact uY fun q hq => h q (by simp [hq])

theorem yE (gs : List (List aE × List aB)) (r : List aE) : (look gs r = [] ∧ ∀ g ∈ gs, g.1 ≠ r) ∨ ∃ g ∈ gs, g.1 = r ∧ look gs r = g.2 := by
  induction gs with
  | nil => exact .inl ⟨rfl, by simp⟩
  | cons g gs ih =>
    rw [pX]
    by_cases h : g.1 = r
    · rw [if_pos h]; exact .inr ⟨g, by simp, h, rfl⟩
    · rw [if_neg h]
      rcases ih with ⟨h1, h2⟩ | ⟨q, hq, h1, h2⟩
      · refine .inl ⟨h1, fun q hq => ?_⟩
        rcases List.mem_cons.1 hq with rfl | hq
        · exact h
        · exact h2 q hq
      · exact .inr ⟨q, by simp [hq], h1, h2⟩

theorem wJ {gs : List (List aE × List aB)} (hs : rS gs) {g : List aE × List aB} (hg : g ∈ gs) : look gs g.1 = g.2 := by
  induction gs with
  | nil => simp at hg
  | cons q gs ih =>
    have hs' := List.pairwise_cons.1 hs
    rw [pX]
    rcases List.mem_cons.1 hg with rfl | hg
    · rw [if_pos rfl]
    · rw [if_neg (fun e => by have := hs'.1 g hg; simp only [ltG, e] at this; exact qQ this)]
      exact ih hs'.2 hg

theorem sK (g : List aE × List aB) (gs : List (List aE × List aB)) : flat (g :: gs) = jX g.1 g.2 ++ flat gs := rfl

theorem vX : ∀ {gs : List (List aE × List aB)}, rS gs → ∀ r, kD (flat gs) r = look gs r
  | [], _, r => rfl
  | g :: gs, hs, r => by
    have hs' := List.pairwise_cons.1 hs
    rw [sK, AQ, MC, vX hs'.2, pX]
    by_cases h : g.1 = r
    · rw [if_pos h, if_pos h, uY, List.append_nil]
      intro q hq e
      have := hs'.1 q hq
      simp only [ltG, h, e] at this; exact qQ this
    · rw [if_neg h, if_neg h]; rfl

theorem RZ : ∀ {gs hs : List (List aE × List aB)}, rS gs → rS hs → Full gs → Full hs → (∀ r, look gs r = look hs r) → gs = hs
  | [], [], _, _, _, _, _ => rfl
  | [], h :: hs, _, _, _, fh, he => by
    have := he h.1
    simp only [pX, look, if_true] at this
    exact absurd this.symm (fh h (by simp))
  | g :: gs, [], _, _, fg, _, he => by
    have := he g.1
    simp only [pX, look, if_true] at this
    exact absurd this (fg g (by simp))
  | g :: gs, h :: hs, sg, sh, fg, fh, he => by
    have sg' := List.pairwise_cons.1 sg
    have sh' := List.pairwise_cons.1 sh
    by_cases e : g.1 = h.1
    · have h2 := he g.1
      simp only [look, if_true, if_pos e.symm] at h2
      have ht : gs = hs := RZ sg'.2 sh'.2 (fun q hq => fg q (by simp [hq])) (fun q hq => fh q (by simp [hq])) fun r => by
        by_cases hr : g.1 = r
        · subst hr
          rw [uY (gs := gs), uY (gs := hs)]
          · intro q hq e'; have := sh'.1 q hq; simp only [ltG, ← e, e'] at this; exact qQ this
          · intro q hq e'; have := sg'.1 q hq; simp only [ltG, e'] at this; exact qQ this
        · have := he r
          simp only [look, if_neg hr, if_neg (fun x => hr (e.trans x))] at this
          exact this
      rw [ht]
      obtain ⟨g1, g2⟩ := g
      obtain ⟨h1, h3⟩ := h
      simp only at e h2
      rw [e, h2]
    · exfalso
      have hne : qM g.1 h.1 ≠ 0 := fun x => e ((wG.eq _ _).1 x)
      by_cases hlt : qM g.1 h.1 < 0
      · have h2 := he g.1
        rw [wJ sg (by simp), uY] at h2
        · exact fg g (by simp) h2
        · intro q hq e'
          rcases List.mem_cons.1 hq with rfl | hq
          · exact e e'.symm
          · have := wG.trans _ _ _ hlt (sh'.1 q hq)
            rw [e'] at this; exact qQ this
      · have hlt' : qM h.1 g.1 < 0 := (wG.anti _ _).2 (by omega)
        have h2 := he h.1
        rw [wJ sh (by simp), uY] at h2
        · exact fh h (by simp) h2.symm
        · intro q hq e'
          rcases List.mem_cons.1 hq with rfl | hq
          · exact e e'
          · have := wG.trans _ _ _ hlt' (sg'.1 q hq)
            rw [e'] at this; exact qQ this

theorem uX {p : List aB → Bool} : ∀ {gs : List (List aE × List aB)} {last : Option (List aE)}, uE p last gs = true ↔ (∀ g ∈ gs, sF g.1 = true ∧ p g.2 = true) ∧ rS gs ∧ (∀ q, last = some q → ∀ g ∈ gs, qM q g.1 < 0)
  | [], last => by simp [uE]
  | g :: gs, last => by
    unfold uE
    simp only [Bool.and_eq_true, uX (gs := gs), List.mem_cons, List.pairwise_cons]
    constructor
    · rintro ⟨⟨⟨h1, h2⟩, h3⟩, h4, h5, h6⟩
      refine ⟨?_, ⟨fun q hq => h6 _ rfl q hq, h5⟩, ?_⟩
      · rintro q (rfl | hq)
        · exact ⟨h1, h3⟩
        · exact h4 q hq
      · rintro q rfl x (rfl | hx)
        · simpa [ahd] using h2
        · simp only [ahd, decide_eq_true_eq] at h2
          exact wG.trans _ _ _ h2 (h6 _ rfl x hx)
    · rintro ⟨h1, ⟨h2, h3⟩, h4⟩
      refine ⟨⟨⟨(h1 g (.inl rfl)).1, ?_⟩, (h1 g (.inl rfl)).2⟩, fun q hq => h1 q (.inr hq), h3, ?_⟩
      · unfold ahd
        split
        · rfl
        · exact decide_eq_true (h4 _ rfl g (.inl rfl))
      · rintro q hq x hx
        cases hq
        exact h2 x hx

theorem pQ {l : List aL} (h : lQ l = true) : l.length ≤ 4096 ∧ (∀ g ∈ groups l, sF g.1 = true ∧ eY g.2 = true) ∧ rS (groups l) := by
  simp only [lQ, Bool.and_eq_true, decide_eq_true_eq] at h
  obtain ⟨h1, h2, _⟩ := uX.1 h.2
  exact ⟨h.1, h1, h2⟩

theorem YR {l : List aL} (h : lQ l = true) (r : List aE) : eY (look (groups l) r) = true := by
  rcases yE (groups l) r with ⟨h1, _⟩ | ⟨g, hg, _, h1⟩
  · rw [h1]; exact KG
  · rw [h1]; exact ((pQ h).2.1 g hg).2

theorem pY {l : List aL} (h : rS (groups l)) (r : List aE) : look (groups l) r = kD l r := by
  rw [← vX h, QZ]

theorem SQ (r : List aE) (f : List aB) (e : aL) (l : List aL) : gA r f (e :: l) = if e.Row = r then gA r (f ++ [jE e]) l else (r, f) :: gA e.Row [jE e] l := rfl

theorem PT (r : List aE) : ∀ (f2 f : List aB) (l : List aL), gA r f (jX r f2 ++ l) = gA r (f ++ f2) l
  | [], f, l => by simp [jX]
  | j :: f2, f, l => by
    show gA r f (⟨r, j.At, j.Net⟩ :: (jX r f2 ++ l)) = _
    rw [SQ, if_pos rfl, PT r f2]
    simp [jE]

theorem KZ : ∀ {gs : List (List aE × List aB)}, rS gs → Full gs → groups (flat gs) = gs
  | [], _, _ => rfl
  | (r, f) :: gs, hs, hf => by
    have hs' := List.pairwise_cons.1 hs
    have hne := hf (r, f) (by simp)
    have ih := KZ hs'.2 (fun g hg => hf g (by simp [hg]))
    cases f with
    | nil => exact absurd rfl hne
    | cons j f =>
      rw [sK]
      show gA r [jE ⟨r, j.At, j.Net⟩] (jX r f ++ flat gs) = _
      rw [PT]
      have key : ∀ (F : List aB), gA r F (flat gs) = (r, F) :: groups (flat gs) := by
        intro F
        cases gs with
        | nil => rfl
        | cons g gs =>
          obtain ⟨q, f'⟩ := g
          have hq := hf (q, f') (by simp)
          cases f' with
          | nil => exact absurd rfl hq
          | cons j' f' =>
            have hqr : q ≠ r := fun e => by
              have := hs'.1 (q, j' :: f') (by simp)
              simp only [ltG, e] at this; exact qQ this
            rw [sK]
            show gA r F (⟨q, j'.At, j'.Net⟩ :: (jX q f' ++ flat gs)) = _
            rw [gA, if_neg hqr]
            rfl
      rw [key, ih]
      rfl

def wM (gs : List (List aE × List aB)) : List (List aE × List aB) := gs.filter fun g => !g.2.isEmpty

theorem zW : ∀ (gs : List (List aE × List aB)), flat (wM gs) = flat gs
  | [] => rfl
  | (r, []) :: gs => by
    have : wM ((r, []) :: gs) = wM gs := rfl
    rw [this, zW gs, sK]; rfl
  | (r, j :: f) :: gs => by
    have : wM ((r, j :: f) :: gs) = (r, j :: f) :: wM gs := rfl
    rw [this, sK, sK, zW gs]

theorem CN (gs : List (List aE × List aB)) : Full (wM gs) := by
  intro g hg
  have := (List.mem_filter.1 hg).2
  intro h; rw [h] at this; simp at this

theorem vV {gs : List (List aE × List aB)} (hs : rS gs) : groups (flat gs) = wM gs := by
  rw [← zW]
  exact KZ (hs.filter _) (CN gs)

theorem LV {gs : List (List aE × List aB)} (hs : rS gs) (r : List aE) : look (groups (flat gs)) r = look gs r := by
  have h1 := vX (gs := wM gs) (hs.filter _) r
  rw [vV hs, ← h1, ← vX hs, zW]

theorem YO {gs : List (List aE × List aB)} (hs : rS gs) (hm : ∀ g ∈ gs, sF g.1 = true ∧ eY g.2 = true) (hl : (flat gs).length ≤ 4096) : lQ (flat gs) = true := by
  simp only [lQ, Bool.and_eq_true, decide_eq_true_eq]
  refine ⟨hl, uX.2 ?_⟩
  rw [vV hs]
  exact ⟨fun g hg => hm g (List.mem_filter.1 hg).1, hs.filter _, by simp⟩

def wF (by1 : List aB → List aB × Int) (gs : List (List aE × List aB)) : List (List aE × List aB) := gs.map fun g => (g.1, (by1 g.2).1)

theorem BY {by1 : List aB → List aB × Int} {gs : List (List aE × List aB)} (hs : rS gs) : rS (wF by1 gs) := by
  rw [rS, wF, List.pairwise_map]; exact hs

theorem zO {by1 : List aB → List aB × Int} (h0 : (by1 []).1 = []) : ∀ (gs : List (List aE × List aB)) (r : List aE), look (wF by1 gs) r = (by1 (look gs r)).1
  | [], r => h0.symm
  | g :: gs, r => by
    show look ((g.1, (by1 g.2).1) :: wF by1 gs) r = _
    rw [pX, pX]
    by_cases h : g.1 = r
    · rw [if_pos h, if_pos h]
    · rw [if_neg h, if_neg h]; exact zO h0 gs r

theorem TG {by1 : List aB → List aB × Int} : ∀ {gs : List (List aE × List aB)} {out : List aL}, out.length ≤ 4096 → (vK by1 gs out).2 = 0 → (∀ g ∈ gs, (by1 g.2).2 = 0) ∧ (vK by1 gs out).1 = out ++ flat (wF by1 gs) ∧ (vK by1 gs out).1.length ≤ 4096
  | [], out, ho, _ => by simp [vK, wF, flat, ho]
  | g :: gs, out, ho, h => by
    unfold vK at h ⊢
    by_cases e1 : (by1 g.2).2 = 0
    · rw [if_neg (by simp [e1])] at h ⊢
      by_cases e2 : 4096 < (out ++ jX g.1 (by1 g.2).1).length
      · rw [if_pos e2] at h; simp at h
      · rw [if_neg e2] at h ⊢
        obtain ⟨h1, h2, h3⟩ := TG (by omega) h
        refine ⟨?_, ?_, h3⟩
        · intro q hq
          rcases List.mem_cons.1 hq with rfl | hq
          · exact e1
          · exact h1 q hq
        · rw [h2]; simp [wF, sK]
    · rw [if_pos e1] at h; exact absurd h e1

theorem PN {by1 : List aB → List aB × Int} : ∀ {gs : List (List aE × List aB)} {out : List aL}, (vK by1 gs out).2 ≠ 0 → (vK by1 gs out).1 = []
  | [], out, h => by simp [vK] at h
  | g :: gs, out, h => by
    unfold vK at h ⊢
    split
    · rfl
    · rename_i e1
      rw [if_neg e1] at h
      split
      · rfl
      · rename_i e2
        rw [if_neg e2] at h
        exact PN h

def uO (by1 : List aB → List aB × Int) (l : List aL) : List aL × Int := if lQ l then vK by1 (groups l) [] else ([], 2)

theorem zV {l : List aL} (hl : okL l) {g : List aE × List aB} (hg : g ∈ groups l) : g.1.length ≤ 4398046510976 := by
  obtain ⟨_, e, he, h⟩ := TW hg
  rw [h]; exact hl.2 e he

theorem all_eq {l : List aL} (hl : okL l) {by0 : List aB → Option (List aB × Int)} {by1 : List aB → List aB × Int} (hb : ∀ f, by0 f = some (by1 f)) (h1 : ∀ f, (by1 f).1.length ≤ 1024) : vM l by0 = some (uO by1 l) := by
  unfold vM uO
  rw [KA hl]
  cases h : lQ l
  · rfl
  · simp only [Option.bind_some, Bool.not_true, cond_false, if_true]
    rw [VJ hl (fun g hg => ⟨hb g.2, h1 g.2, zV hl hg⟩)]
    rfl

theorem AS {by1 : List aB → List aB × Int} {l : List aL} (h : (uO by1 l).2 = 0) : lQ l = true ∧ (∀ g ∈ groups l, (by1 g.2).2 = 0) ∧ (uO by1 l).1 = flat (wF by1 (groups l)) ∧ (uO by1 l).1.length ≤ 4096 := by
  unfold uO at h ⊢
  cases hm : lQ l
  · rw [hm] at h; simp at h
  · rw [hm] at h
    simp only [if_true] at h ⊢
    obtain ⟨h1, h2, h3⟩ := TG (by simp) h
    exact ⟨trivial, h1, by simpa using h2, h3⟩

theorem XP {by1 : List aB → List aB × Int} (h0 : (by1 []).1 = []) {l : List aL} (h : (uO by1 l).2 = 0) (r : List aE) : look (groups (uO by1 l).1) r = (by1 (look (groups l) r)).1 := by
  obtain ⟨h1, h2, h3, _⟩ := AS h
  rw [h3, LV (BY (pQ h1).2.2), zO h0]

theorem aAJ {by1 : List aB → List aB × Int} (h0 : (by1 []).2 = 0) {l : List aL} (h : (uO by1 l).2 = 0) (r : List aE) : (by1 (look (groups l) r)).2 = 0 := by
  obtain ⟨h1, h2, _, _⟩ := AS h
  rcases yE (groups l) r with ⟨e, _⟩ | ⟨g, hg, _, e⟩
  · rw [e]; exact h0
  · rw [e]; exact h2 g hg

theorem xL : ∀ (l : List aL) (r : List aE) (f : List aB), (gA r f l).length ≤ l.length + 1
  | [], _, _ => by simp [gA]
  | e :: l, r, f => by
    rw [SQ]
    split
    · have := xL l r (f ++ [jE e]); simp only [List.length_cons]; omega
    · have := xL l e.Row [jE e]; simp only [List.length_cons]; omega

theorem HR (l : List aL) : (groups l).length ≤ l.length := by
  cases l with
  | nil => simp [groups]
  | cons e l => exact xL l e.Row [jE e]

end Go.Abs
namespace Go.Abs
open Go
def vL : aE := ⟨1, 1, ByteArray.empty⟩

end Go.Abs
namespace Go.Abs
open Go
theorem SH : okL [] := ⟨by simp, by simp⟩

theorem aAB {gs : List (List aE × List aB)} (h : ∀ g ∈ gs, g.1.length ≤ 4398046510976) (hl : (flat gs).length ≤ 4096) : okL (flat gs) := by
  refine ⟨by omega, fun e he => ?_⟩
  obtain ⟨g, hg, h1⟩ := List.mem_flatMap.1 he
  obtain ⟨j, _, rfl⟩ := List.mem_map.1 h1
  exact h g hg

theorem YZ {by1 : List aB → List aB × Int} {l : List aL} (hl : okL l) : okL (uO by1 l).1 := by
  by_cases h : (uO by1 l).2 = 0
  · obtain ⟨_, _, h3, h4⟩ := AS h
    rw [h3] at h4 ⊢
    refine aAB (fun g hg => ?_) h4
    obtain ⟨q, hq, rfl⟩ := List.mem_map.1 hg
    have := zV hl hq
    exact this
  · unfold uO at h ⊢
    split
    · rename_i hm
      rw [if_pos hm] at h
      rw [PN h]; exact SH
    · exact SH

def oQ (l : List aL) (t : Int) : List aL × Int := uO (fun f => rest f t) l

theorem YP {l : List aL} (hl : okL l) (t : Int) : okL (oQ l t).1 := YZ hl

theorem aAe {l : List aL} (hl : okL l) (t : Int) : tS l t = some (oQ l t) := by
  unfold tS oQ
  rw [all_eq hl (by0 := fun y0 => oK y0 t) (by1 := fun f => rest f t) (fun f => by unfold oK; rw [aA4]; rfl) (fun f => aAq f t)]
  rfl

theorem ND {t : Int} : rest [] t = ([], 0) := by
  unfold rest
  rw [if_pos KG]
  split
  · rfl
  · split <;> rfl

end Go.Abs
namespace Go.Abs
open Go
theorem FG {σ : Type} {y : σ → List aE → List aB → Option (σ × Bool)} (c : List aL) : ∀ (gs : List (List aE × List aB)) (s s' : σ), itG y gs s = some s' →
    ∃ x, itG (fun st t10 t11 => rnd (fun (s : σ) => kN y c s t10 t11) st) gs (.inl s) = some x ∧ Sum.elim id id x = s'
  | [], s, s', h => by simp only [itG, Option.some.injEq] at h; exact ⟨_, rfl, h⟩
  | g :: gs, s, s', h => by
    simp only [itG] at h
    obtain ⟨z, hz, h⟩ := aV h
    have hl : kN y c s g.1 g.2 = some (if z.2 then .inl z.1 else .inr z.1) := by
      unfold kN
      rw [hz]
      obtain ⟨z1, z2⟩ := z
      cases z2 <;> rfl
    cases h2 : z.2
    · rw [h2] at h hl
      simp only [Bool.false_eq_true, if_false, Option.some.injEq] at h hl
      refine ⟨.inr z.1, ?_, h⟩
      simp [itG, rnd, hl]
    · rw [h2] at h hl
      simp only [if_true] at h hl
      obtain ⟨x, h3, h4⟩ := FG c gs z.1 s' h
      refine ⟨x, ?_, h4⟩
      simp only [itG, rnd, hl, Option.bind_some, Sum.isLeft_inl, if_true]
      exact h3

theorem UJ {σ : Type} {y : σ → List aE → List aB → Option (σ × Bool)} {l : List aL} (hl : okL l) {s s' : σ} (h : itG y (if lQ l then groups l else []) s = some s') : nM y l s = some s' := by
  unfold nM
  rw [KA hl]
  cases hm : lQ l
  · rw [hm] at h
    simp only [Bool.false_eq_true, if_false, itG] at h
    simpa using h
  · rw [hm] at h
    simp only [if_true] at h
    simp only [Option.bind_some, Bool.not_true, cond_false, nR, oV]
    obtain ⟨x, h1, h2⟩ := FG l (groups l) s s' h
    rw [JP hl h1]
    cases x <;> simpa using h2

theorem xZ {l : List aL} (hm : lQ l = true) (r : List aE) : eY (kD l r) = true := by
  rw [← pY (pQ hm).2.2]; exact YR hm r

end Go.Abs
namespace Go.Abs
open Go
theorem SL {c : Int} : ∀ {l : List Int} {m : Int}, c ≤ l.foldl mn m ↔ c ≤ m ∧ ∀ x ∈ l, c ≤ x
  | [], m => by simp
  | a :: l, m => by
    rw [List.foldl_cons, SL]
    unfold mn
    constructor
    · rintro ⟨h1, h2⟩
      have h3 : c ≤ m ∧ c ≤ a := by split at h1 <;> omega
      refine ⟨h3.1, fun x hx => ?_⟩
      rcases List.mem_cons.1 hx with rfl | hx
      · exact h3.2
      · exact h2 x hx
    · rintro ⟨h1, h2⟩
      have := h2 a (by simp)
      exact ⟨by split <;> omega, fun x hx => h2 x (by simp [hx])⟩

theorem KR {t : Int} : ∀ {f : List aB} {l v : Int}, mF l f → v + val f t = v ∨ v + val f t ∈ parts v f
  | [], l, v, _ => .inl (by simp [val])
  | j :: r, l, v, h => by
    unfold parts
    rw [fD]
    by_cases e : j.At ≤ t
    · rw [if_pos e]
      right
      rcases KR (t := t) (v := v + j.Net) h.2 with h1 | h1
      · rw [show v + (j.Net + val r t) = v + j.Net by omega]; simp
      · rw [show v + (j.Net + val r t) = v + j.Net + val r t by omega]; exact List.mem_cons_of_mem _ h1
    · left
      rw [if_neg e, h.2.xP (by omega)]; omega

theorem KN {f : List aB} (hf : eY f = true) : 0 ≤ AW f ↔ ∀ t, 0 ≤ val f t := by
  have hr := (mL.1 hf).2
  unfold AW
  rw [SL]
  constructor
  · rintro ⟨_, h2⟩ t
    rcases KR (t := t) (v := 0) hr with h | h
    · omega
    · rw [parts_eq hr] at h
      obtain ⟨j, hj, h⟩ := List.mem_map.1 h
      have := h2 _ (List.mem_map.2 ⟨j, hj, rfl⟩)
      omega
  · intro h
    refine ⟨h _, fun x hx => ?_⟩
    obtain ⟨j, _, rfl⟩ := List.mem_map.1 hx
    exact h _

theorem vJ {l : List aL} : sW l = true ↔ lQ l = true ∧ ∀ r t, 0 ≤ val (kD l r) t := by
  constructor
  · intro h
    unfold sW at h
    rw [Bool.and_eq_true, uX] at h
    obtain ⟨h1, h2, h3, _⟩ := h
    have hm : lQ l = true := by
      unfold lQ
      rw [Bool.and_eq_true]
      exact ⟨h1, uX.2 ⟨fun g hg => ⟨(h2 g hg).1, by have := (h2 g hg).2; unfold JY at this; rw [Bool.and_eq_true] at this; exact this.1⟩, h3, fun q hq => by cases hq⟩⟩
    refine ⟨hm, fun r => ?_⟩
    rw [← pY h3]
    rcases yE (groups l) r with ⟨e, _⟩ | ⟨g, hg, _, e⟩
    · rw [e]; intro t; simp [val]
    · rw [e]
      have := (h2 g hg).2
      unfold JY at this
      rw [Bool.and_eq_true, decide_eq_true_eq] at this
      exact (KN this.1).1 this.2
  · rintro ⟨hm, h⟩
    obtain ⟨h1, h2, h3⟩ := pQ hm
    unfold sW
    rw [Bool.and_eq_true]
    refine ⟨by simpa using h1, uX.2 ⟨fun g hg => ⟨(h2 g hg).1, ?_⟩, h3, fun q hq => by cases hq⟩⟩
    unfold JY
    rw [Bool.and_eq_true, decide_eq_true_eq]
    refine ⟨(h2 g hg).2, (KN (h2 g hg).2).2 ?_⟩
    have : g.2 = kD l g.1 := by rw [← pY h3, wJ h3 hg]
    rw [this]; exact h g.1

theorem WV {f : List aB} (hu : Up (-2) f) (h : ∀ t, -2 < t → t < 1125899906842624 → 0 ≤ val f t) : ∀ t, 0 ≤ val f t := by
  intro t
  by_cases h1 : -2 < t
  · by_cases h2 : t < 1125899906842624
    · exact h t h1 h2
    · have := KI (s := 1125899906842623) (t := t) (by omega) (f := f) (fun j hj => by have := (hu.above j hj); omega)
      rw [← this]; exact h _ (by omega) (by omega)
  · rw [hu.xP (by omega)]; omega

end Go.Abs
namespace Go.Abs
open Go
abbrev gN (d : List Int) (i : Nat) : Int := d.getD i default

def swp (d : List Int) (i j : Nat) : List Int := (d.set i (gN d j)).set j (gN d i)

theorem XG {d : List Int} {i k : Nat} {x : Int} (h : i < d.length) : gN (d.set i x) k = if k = i then x else gN d k := by
  simp only [gN, List.getD_eq_getElem?_getD, List.getElem?_set]
  by_cases e : i = k
  · subst e; simp [h]
  · rw [if_neg e, if_neg (fun h => e h.symm)]

theorem gQ (d : List Int) (i j : Nat) : (swp d i j).length = d.length := by simp [swp]

theorem rM {d : List Int} {i j : Nat} (hi : i < d.length) (hj : j < d.length) (k : Nat) : gN (swp d i j) k = if k = j then gN d i else if k = i then gN d j else gN d k := by
  unfold swp
  rw [XG (by simpa using hj), XG hi]

theorem YY {d : List Int} {i j : Nat} (hi : i < d.length) (hj : j < d.length) : (swp d i j).Perm d := by
  have h1 : gN d i = d[i] := by simp [gN, List.getD_eq_getElem?_getD, List.getElem?_eq_getElem hi]
  have h2 : gN d j = d[j] := by simp [gN, List.getD_eq_getElem?_getD, List.getElem?_eq_getElem hj]
  unfold swp
  rw [h1, h2]
  exact List.set_set_perm hi hj

structure Rel (a b : Nat) (d d' : List Int) : Prop where
  len : d'.length = d.length
  perm : d'.Perm d
  out : ∀ k, k < a ∨ b ≤ k → gN d' k = gN d k
  src : ∀ k, a ≤ k → k < b → ∃ k', a ≤ k' ∧ k' < b ∧ gN d' k = gN d k'

theorem Rel.refl (a b : Nat) (d : List Int) : Rel a b d d := ⟨rfl, .refl _, fun _ _ => rfl, fun k h1 h2 => ⟨k, h1, h2, rfl⟩⟩

theorem Rel.trans {a b : Nat} {d d' d'' : List Int} (h : Rel a b d d') (h' : Rel a b d' d'') : Rel a b d d'' :=
  ⟨h'.len.trans h.len, h'.perm.trans h.perm, fun k hk => (h'.out k hk).trans (h.out k hk), fun k h1 h2 => by
    obtain ⟨k1, a1, a2, a3⟩ := h'.src k h1 h2
    obtain ⟨k2, b1, b2, b3⟩ := h.src k1 a1 a2
    exact ⟨k2, b1, b2, a3.trans b3⟩⟩

theorem Rel.mono {a b a' b' : Nat} {d d' : List Int} (h : Rel a b d d') (h1 : a' ≤ a) (h2 : b ≤ b') : Rel a' b' d d' :=
  ⟨h.len, h.perm, fun k hk => h.out k (by omega), fun k k1 k2 => by
    by_cases hk : a ≤ k ∧ k < b
    · obtain ⟨k', c1, c2, c3⟩ := h.src k hk.1 hk.2
      exact ⟨k', by omega, by omega, c3⟩
    · exact ⟨k, k1, k2, h.out k (by omega)⟩⟩

theorem Rel.swp {a b : Nat} {d : List Int} {i j : Nat} (hi : i < d.length) (hj : j < d.length) (h1 : a ≤ i ∧ i < b) (h2 : a ≤ j ∧ j < b) : Rel a b d (swp d i j) :=
  ⟨gQ .., YY hi hj, fun k hk => by rw [rM hi hj, if_neg (by omega), if_neg (by omega)], fun k k1 k2 => by
    rw [rM hi hj]
    split
    · exact ⟨i, h1.1, h1.2, rfl⟩
    · split
      · exact ⟨j, h2.1, h2.2, rfl⟩
      · exact ⟨k, k1, k2, rfl⟩⟩

theorem Rel.all {a b : Nat} {d d' : List Int} (h : Rel a b d d') {p : Int → Prop} (hp : ∀ k, a ≤ k → k < b → p (gN d k)) : ∀ k, a ≤ k → k < b → p (gN d' k) := fun k k1 k2 => by
  obtain ⟨k', c1, c2, c3⟩ := h.src k k1 k2
  rw [c3]; exact hp k' c1 c2

def oH (a b : Nat) (d : List Int) : Prop := ∀ p q, a ≤ p → p ≤ q → q < b → gN d p ≤ gN d q

theorem qE (a b : Int) : cY a b = some (decide (a < b)) := by simp [cY, kX, dG]

theorem wrN {x : Int} {n : Nat} (h : x = (n : Int)) (hn : n ≤ 9000000000000000000) : IntKind.i64.wrap x = (n : Int) := by
  rw [eH (by omega) (by omega), h]

theorem asN {i n : Nat} (h : i < n) : 0 ≤ (i : Int) ∧ (i : Int) < ((n : Nat) : Int) := by omega

theorem PZ {a b i : Int} {d : List Int} {lo j : Nat} (ha : a = (lo : Nat)) (h1 : lo ≤ j) (hj : j < d.length) (hl : d.length < 4611686018427387904) :
    eT a b i d (j : Nat) = if lo < j ∧ gN d j < gN d (j - 1) then some (.inl (swp d j (j - 1), ((j - 1 : Nat) : Int))) else some (.inr d) := by
  subst ha
  unfold eT
  by_cases h : lo < j
  · have e1 : IntKind.i64.wrap ((j : Int) - 1) = ((j - 1 : Nat) : Int) := wrN (by omega) (by omega)
    have d1 : decide (((lo : Nat) : Int) < ((j : Nat) : Int)) = true := by simp; omega
    rw [e1, d1]
    simp only [true_and, Int.toNat_natCast, qE, dG, cond_true, Option.bind_some, Bool.true_and]
    rw [aQ fun _ => asN hj, aQ fun _ => asN (by omega)]
    by_cases h2 : gN d j < gN d (j - 1)
    · rw [if_pos ⟨h, h2⟩]
      simp only [gN] at h2
      simp only [h2, decide_true, cond_true]
      rw [aQ (asN (by omega)), aQ (asN hj), aQ (asN hj), aQ (asN (by omega))]
      rfl
    · rw [if_neg (fun hh => h2 hh.2)]
      simp only [gN] at h2
      simp only [h2, decide_false, cond_false]
  · have d1 : decide (((lo : Nat) : Int) < ((j : Nat) : Int)) = false := by simp; omega
    rw [if_neg (fun hh => h hh.1), d1]
    simp only [Bool.false_eq_true, false_implies, dG, cond_false, Option.bind_some, Bool.false_and]
    rw [aQ trivial, aQ trivial]

structure CY (a j i : Nat) (d : List Int) : Prop where
  oth : ∀ p q, a ≤ p → p ≤ q → q ≤ i → p ≠ j → q ≠ j → gN d p ≤ gN d q
  up : ∀ q, j < q → q ≤ i → gN d j ≤ gN d q

theorem CY.done {a j i : Nat} {d : List Int} (h : CY a j i d) (hj : a ≤ j) (hn : ¬ (a < j ∧ gN d j < gN d (j - 1))) : oH a (i + 1) d := by
  intro p q h1 h2 h3
  by_cases hp : p = j
  · by_cases hq : q = j
    · subst hp; subst hq; exact Int.le_refl _
    · subst hp; exact h.up q (by omega) (by omega)
  · by_cases hq : q = j
    · subst hq
      have h4 : ¬ gN d q < gN d (q - 1) := fun hh => hn ⟨by omega, hh⟩
      have := h.oth p (q - 1) h1 (by omega) (by omega) hp (by omega)
      omega
    · exact h.oth p q h1 h2 (by omega) hp hq

theorem CY.next {a j i : Nat} {d : List Int} (h : CY a j i d) (hj : a < j) (hji : j ≤ i) (hi : i < d.length) (hlt : gN d j < gN d (j - 1)) : CY a (j - 1) i (swp d j (j - 1)) := by
  have g := rM (d := d) (i := j) (j := j - 1) (by omega) (by omega)
  refine ⟨fun p q h1 h2 h3 hp hq => ?_, fun q h1 h2 => ?_⟩
  · rw [g, g, if_neg hp, if_neg hq]
    by_cases hpj : p = j
    · rw [if_pos hpj]
      by_cases hqj : q = j
      · rw [if_pos hqj]; exact Int.le_refl _
      · rw [if_neg hqj]; exact h.oth (j - 1) q (by omega) (by omega) h3 (by omega) hqj
    · rw [if_neg hpj]
      by_cases hqj : q = j
      · rw [if_pos hqj]; exact h.oth p (j - 1) h1 (by omega) (by omega) hpj (by omega)
      · rw [if_neg hqj]; exact h.oth p q h1 h2 h3 hpj hqj
  · rw [g, g, if_pos rfl, if_neg (by omega)]
    by_cases hqj : q = j
    · rw [if_pos hqj]; omega
    · rw [if_neg hqj]; exact h.up q (by omega) h2

theorem aCe {a b i : Int} {lo hi : Nat} (ha : a = (lo : Nat)) : ∀ (j : Nat) (d : List Int), lo ≤ j → j ≤ hi → hi < d.length → d.length < 4611686018427387904 → CY lo j hi d →
    ∃ d', lp (fun s : List Int × Int => eT a b i s.1 s.2) (d, (j : Int)) = some d' ∧ Rel lo (hi + 1) d d' ∧ oH lo (hi + 1) d' := by
  intro j
  induction j with
  | zero =>
    intro d h1 h2 h3 h4 h5
    have hs := PZ (a := a) (b := b) (i := i) ha h1 (by omega) h4 (d := d)
    rw [if_neg (by omega)] at hs
    exact ⟨d, cV hs, Rel.refl .., h5.done h1 (by omega)⟩
  | succ j ih =>
    intro d h1 h2 h3 h4 h5
    have hs := PZ (a := a) (b := b) (i := i) ha h1 (by omega) h4 (d := d)
    by_cases h : lo < j + 1 ∧ gN d (j + 1) < gN d (j + 1 - 1)
    · rw [if_pos h] at hs
      obtain ⟨d', e, r, s⟩ := ih (swp d (j + 1) (j + 1 - 1)) (by omega) (by omega) (by rw [gQ]; omega) (by rw [gQ]; omega) (h5.next h.1 h2 h3 h.2)
      exact ⟨d', (gF hs).trans e, (Rel.swp (by omega) (by omega) (by omega) (by omega)).trans r, s⟩
    · rw [if_neg h] at hs
      exact ⟨d, cV hs, Rel.refl .., h5.done h1 h⟩

theorem RA {a b : Int} {lo hi : Nat} (ha : a = (lo : Nat)) (hb : b = (hi : Nat)) : ∀ (n i : Nat) (d : List Int), hi - i = n → lo < i → hi ≤ d.length → d.length < 4611686018427387904 → oH lo i d → (i ≤ hi ∨ hi ≤ i) →
    ∃ d', lp (fun s : List Int × Int => cZ a b s.1 s.2) (d, (i : Int)) = some d' ∧ Rel lo hi d d' ∧ oH lo hi d' := by
  intro n
  induction n with
  | zero =>
    intro i d h1 h2 h3 h4 h5 _
    refine ⟨d, cV ?_, Rel.refl .., fun p q p1 p2 p3 => h5 p q p1 p2 (by omega)⟩
    show cZ _ _ _ _ = _
    have : decide (((i : Nat) : Int) < b) = false := by simp; omega
    simp only [cZ, this, cond_false]
  | succ n ih =>
    intro i d h1 h2 h3 h4 h5 _
    obtain ⟨d1, e, r, s⟩ := aCe (a := a) (b := b) (i := (i : Int)) (hi := i) ha i d (by omega) (Nat.le_refl _) (by omega) h4 ⟨fun p q p1 p2 p3 p4 p5 => h5 p q p1 p2 (by omega), fun q q1 q2 => by omega⟩
    obtain ⟨d2, e2, r2, s2⟩ := ih (i + 1) d1 (by omega) (by omega) (by rw [r.len]; exact h3) (by rw [r.len]; exact h4) s (by omega)
    refine ⟨d2, ?_, (r.mono (Nat.le_refl _) (by omega)).trans r2, s2⟩
    rw [gF (s' := (d1, ((i + 1 : Nat) : Int))) ?_, e2]
    show cZ _ _ _ _ = _
    have : decide (((i : Nat) : Int) < b) = true := by simp; omega
    simp only [cZ, this, cond_true, iY]
    rw [e]
    simp only [Option.bind_some, fZ]
    rw [wrN (n := i + 1) (by omega) (by omega)]

theorem FW (lo : Nat) (d : List Int) : oH lo (lo + 1) d := fun p q p1 p2 p3 => by
  have : p = q := by omega
  subst this
  exact Int.le_refl _

theorem aAm {lo hi : Nat} {d : List Int} (h3 : hi ≤ d.length) (h4 : d.length < 4611686018427387904) (h0 : lo ≤ hi) : ∃ d', gK d (lo : Int) (hi : Int) = some d' ∧ Rel lo hi d d' ∧ oH lo hi d' := by
  unfold gK iZ
  obtain ⟨d', e, r, s⟩ := RA (a := (lo : Int)) (b := (hi : Int)) (lo := lo) (hi := hi) rfl rfl (hi - (lo + 1)) (lo + 1) d rfl (by omega) h3 h4 (FW lo d) (by omega)
  rw [wrN (n := lo + 1) (by omega) (by omega), e]
  exact ⟨d', rfl, r, s⟩

theorem aBV {lo hi : Nat} : ∀ (n i j : Nat) (d : List Int), j + 1 - i = n → lo ≤ i → j + 1 ≤ hi ∨ j ≤ i → hi ≤ d.length → d.length < 4611686018427387904 → i < 4611686018427387904 → j < 4611686018427387904 →
    ∃ d', lp (fun s : List Int × Int × Int => dD s.1 s.2.1 s.2.2) (d, (i : Int), (j : Int)) = some d' ∧ Rel lo hi d d' := by
  intro n
  induction n using Nat.strongRecOn with
  | ind n ih =>
    intro i j d h1 h2 h3 h4 h5 h6 h7
    by_cases h : i < j
    · obtain ⟨d', e, r⟩ := ih (j - 1 + 1 - (i + 1)) (by omega) (i + 1) (j - 1) (swp d i j) rfl (by omega) (by omega) (by rw [gQ]; exact h4) (by rw [gQ]; exact h5) (by omega) (by omega)
      refine ⟨d', ?_, (Rel.swp (by omega) (by omega) (by omega) (by omega)).trans r⟩
      rw [gF (s' := (swp d i j, ((i + 1 : Nat) : Int), ((j - 1 : Nat) : Int))) ?_, e]
      show dD _ _ _ = _
      have : decide (((i : Nat) : Int) < ((j : Nat) : Int)) = true := by simp; omega
      simp only [dD, this, cond_true, Int.toNat_natCast]
      rw [aQ (asN (by omega)), aQ (asN (by omega)), aQ (asN (by omega)), aQ (asN (by omega)), wrN (n := i + 1) (by omega) (by omega), wrN (n := j - 1) (by omega) (by omega)]
      rfl
    · refine ⟨d, cV ?_, Rel.refl ..⟩
      show dD _ _ _ = _
      have : decide (((i : Nat) : Int) < ((j : Nat) : Int)) = false := by simp; omega
      simp only [dD, this, cond_false]

theorem WO {lo hi : Nat} {d : List Int} (h0 : lo < hi) (h3 : hi ≤ d.length) (h4 : d.length < 4611686018427387904) : ∃ d', gV d (lo : Int) (hi : Int) = some d' ∧ Rel lo hi d d' := by
  unfold gV jF
  obtain ⟨d', e, r⟩ := aBV (lo := lo) (hi := hi) (hi - 1 + 1 - lo) lo (hi - 1) d rfl (Nat.le_refl _) (by omega) h3 h4 (by omega) (by omega)
  rw [wrN (n := hi - 1) (by omega) (by omega), e]
  exact ⟨d', rfl, r⟩

end Go.Abs
namespace Go.Abs
open Go
def vH (f hi : Nat) (d : List Int) (r : Nat) : Nat := if 2 * r + 2 < hi ∧ gN d (f + (2 * r + 1)) < gN d (f + (2 * r + 2)) then 2 * r + 2 else 2 * r + 1

theorem JQ {f hi r c : Nat} {d : List Int} (hf : f + hi ≤ d.length) (hr : r < hi) (hc : c < hi) (hl : d.length < 2305843009213693951) :
    gG d (hi : Nat) (f : Nat) (r : Nat) (c : Nat) = if gN d (f + r) < gN d (f + c) then some (.inl (swp d (f + r) (f + c), (c : Int))) else some (.inr (.inr d)) := by
  unfold gG
  have e1 : IntKind.i64.wrap ((f : Int) + (r : Int)) = ((f + r : Nat) : Int) := wrN (by omega) (by omega)
  have e2 : IntKind.i64.wrap ((f : Int) + (c : Int)) = ((f + c : Nat) : Int) := wrN (by omega) (by omega)
  rw [e1, e2]
  simp only [Int.toNat_natCast, qE, Option.bind_some]
  rw [aQ (asN (by omega)), aQ (asN (by omega))]
  by_cases h : gN d (f + r) < gN d (f + c)
  · rw [if_pos h]
    simp only [gN] at h
    simp only [h, decide_true, Bool.not_true, cond_false]
    rw [aQ (asN (by omega)), aQ (asN (by omega)), aQ (asN (by omega)), aQ (asN (by omega))]
    rfl
  · rw [if_neg h]
    simp only [gN] at h
    simp only [h, decide_false, Bool.not_false, cond_true]

theorem XS {f hi r : Nat} {d : List Int} (hf : f + hi ≤ d.length) (hr : r < hi) (hl : d.length < 2305843009213693951) :
    cW (hi : Nat) (f : Nat) d (r : Nat) = if hi ≤ 2 * r + 1 then some (.inr (.inl d)) else if gN d (f + r) < gN d (f + vH f hi d r) then some (.inl (swp d (f + r) (f + vH f hi d r), (vH f hi d r : Int))) else some (.inr (.inr d)) := by
  unfold cW
  have e1 : IntKind.i64.wrap (IntKind.i64.wrap ((2 : Int) * (r : Int)) + 1) = ((2 * r + 1 : Nat) : Int) := by
    rw [wrN (x := (2 : Int) * (r : Int)) (n := 2 * r) (by omega) (by omega)]; exact wrN (by omega) (by omega)
  have e2 : IntKind.i64.wrap (((2 * r + 1 : Nat) : Int) + 1) = ((2 * r + 2 : Nat) : Int) := wrN (by omega) (by omega)
  simp only [e1, e2]
  by_cases h : hi ≤ 2 * r + 1
  · rw [if_pos h]
    have : decide (((hi : Nat) : Int) ≤ ((2 * r + 1 : Nat) : Int)) = true := by simp; omega
    rw [this, cond_true]
  · rw [if_neg h]
    have d1 : decide (((hi : Nat) : Int) ≤ ((2 * r + 1 : Nat) : Int)) = false := by simp; omega
    rw [d1, cond_false]
    by_cases h2 : 2 * r + 2 < hi
    · have d2 : decide (((2 * r + 2 : Nat) : Int) < ((hi : Nat) : Int)) = true := by simp; omega
      have e3 : IntKind.i64.wrap ((f : Int) + ((2 * r + 1 : Nat) : Int)) = ((f + (2 * r + 1) : Nat) : Int) := wrN (by omega) (by omega)
      have e4 : IntKind.i64.wrap (((f + (2 * r + 1) : Nat) : Int) + 1) = ((f + (2 * r + 2) : Nat) : Int) := wrN (by omega) (by omega)
      simp only [d2, e3, e4, Int.toNat_natCast, qE, dG, cond_true, Option.bind_some, Bool.true_and]
      rw [aQ fun _ => asN (by omega), aQ fun _ => asN (by omega)]
      by_cases h3 : gN d (f + (2 * r + 1)) < gN d (f + (2 * r + 2))
      · have hb : vH f hi d r = 2 * r + 2 := if_pos ⟨h2, h3⟩
        simp only [gN] at h3
        simp only [h3, decide_true, cond_true]
        rw [JQ hf hr h2 hl, hb]
      · have hb : vH f hi d r = 2 * r + 1 := if_neg fun hh => h3 hh.2
        simp only [gN] at h3
        simp only [h3, decide_false, cond_false]
        rw [JQ hf hr (by omega) hl, hb]
    · have d2 : decide (((2 * r + 2 : Nat) : Int) < ((hi : Nat) : Int)) = false := by simp; omega
      have hb : vH f hi d r = 2 * r + 1 := if_neg fun hh => h2 hh.1
      simp only [d2, Bool.false_eq_true, false_implies, dG, cond_false, Option.bind_some, Bool.false_and]
      rw [aQ trivial, aQ trivial, JQ hf hr (by omega) hl, hb]

def chd (c p : Nat) : Prop := c = 2 * p + 1 ∨ c = 2 * p + 2

def Hp (f lo hi : Nat) (d : List Int) : Prop := ∀ i c, lo ≤ i → chd c i → c < hi → gN d (f + c) ≤ gN d (f + i)

structure HpX (f lo hi r : Nat) (d : List Int) : Prop where
  oth : ∀ i c, lo ≤ i → i ≠ r → chd c i → c < hi → gN d (f + c) ≤ gN d (f + i)
  up : ∀ p c, lo ≤ p → chd r p → chd c r → c < hi → gN d (f + c) ≤ gN d (f + p)

theorem WL {f hi r : Nat} {d : List Int} (h : ¬ hi ≤ 2 * r + 1) : chd (vH f hi d r) r ∧ vH f hi d r < hi ∧ ∀ c, chd c r → c < hi → gN d (f + c) ≤ gN d (f + vH f hi d r) := by
  unfold vH
  split
  · rename_i h1
    refine ⟨.inr rfl, h1.1, fun c hc hlt => ?_⟩
    rcases hc with rfl | rfl
    · omega
    · exact Int.le_refl _
  · rename_i h1
    refine ⟨.inl rfl, by omega, fun c hc hlt => ?_⟩
    rcases hc with rfl | rfl
    · exact Int.le_refl _
    · have : ¬ gN d (f + (2 * r + 1)) < gN d (f + (2 * r + 2)) := fun hh => h1 ⟨hlt, hh⟩
      omega

theorem HpX.done {f lo hi r : Nat} {d : List Int} (h : HpX f lo hi r d) (hr : ∀ c, chd c r → c < hi → gN d (f + c) ≤ gN d (f + r)) : Hp f lo hi d := by
  intro i c h1 h2 h3
  by_cases e : i = r
  · subst e; exact hr c h2 h3
  · exact h.oth i c h1 e h2 h3

theorem HpX.next {f lo hi r c : Nat} {d : List Int} (h : HpX f lo hi r d) (hf : f + hi ≤ d.length) (hlo : lo ≤ r) (hrh : r < hi) (hc : chd c r) (hch : c < hi) (hbig : ∀ k, chd k r → k < hi → gN d (f + k) ≤ gN d (f + c)) (hlt : gN d (f + r) < gN d (f + c)) : HpX f lo hi c (swp d (f + r) (f + c)) := by
  have g := rM (d := d) (i := f + r) (j := f + c) (by omega) (by omega)
  have hcr : r < c := by unfold chd at hc; omega
  refine ⟨fun i k h1 h2 h3 h4 => ?_, fun p k h1 h2 h3 h4 => ?_⟩
  · rw [g, g, if_neg (show ¬ f + i = f + c by omega)]
    by_cases hir : i = r
    · subst hir
      rw [if_pos (show f + i = f + i from rfl)]
      by_cases hkc : k = c
      · subst hkc; rw [if_pos rfl]; omega
      · rw [if_neg (by omega), if_neg (by unfold chd at h3; omega)]
        exact hbig k h3 h4
    · rw [if_neg (show ¬ f + i = f + r by omega)]
      have hkc : k ≠ c := by intro e; subst e; unfold chd at h3 hc; omega
      rw [if_neg (by omega)]
      by_cases hkr : k = r
      · subst hkr
        rw [if_pos rfl]
        exact h.up i c h1 h3 hc hch
      · rw [if_neg (by omega)]
        exact h.oth i k h1 hir h3 h4
  · have hp : p = r := by unfold chd at h2 hc; omega
    subst hp
    have hk : c < k := by unfold chd at h3; omega
    rw [g, g, if_neg (by omega), if_neg (by omega), if_neg (by omega), if_pos rfl]
    exact h.oth c k (by omega) (by omega) h3 h4

theorem aBK {f lo hi : Nat} : ∀ (n r : Nat) (d : List Int), hi - r = n → f + hi ≤ d.length → lo ≤ r → r < hi → d.length < 2305843009213693951 → HpX f lo hi r d →
    ∃ d', (lp (fun s : List Int × Int => cW (hi : Nat) (f : Nat) s.1 s.2) (d, (r : Int)) = some (.inl d') ∨ lp (fun s : List Int × Int => cW (hi : Nat) (f : Nat) s.1 s.2) (d, (r : Int)) = some (.inr d')) ∧ Rel f (f + hi) d d' ∧ Hp f lo hi d' := by
  intro n
  induction n using Nat.strongRecOn with
  | ind n ih =>
    intro r d h1 h2 h3 h4 h5 h6
    have hs := XS h2 h4 h5
    by_cases h : hi ≤ 2 * r + 1
    · rw [if_pos h] at hs
      exact ⟨d, .inl (cV hs), Rel.refl .., h6.done fun c hc hlt => by unfold chd at hc; omega⟩
    · rw [if_neg h] at hs
      obtain ⟨b1, b2, b3⟩ := WL (f := f) (d := d) h
      by_cases hlt : gN d (f + r) < gN d (f + vH f hi d r)
      · rw [if_pos hlt] at hs
        have hb : r < vH f hi d r := by unfold chd at b1; omega
        obtain ⟨d', e, rl, hp⟩ := ih (hi - vH f hi d r) (by omega) (vH f hi d r) _ rfl (by rw [gQ]; exact h2) (by omega) b2 (by rw [gQ]; exact h5) (h6.next h2 h3 h4 b1 b2 b3 hlt)
        exact ⟨d', e.imp (fun e => (gF hs).trans e) (fun e => (gF hs).trans e), (Rel.swp (by omega) (by omega) (by omega) (by omega)).trans rl, hp⟩
      · rw [if_neg hlt] at hs
        exact ⟨d, .inr (cV hs), Rel.refl .., h6.done fun c hc hc2 => by have := b3 c hc hc2; omega⟩

theorem SS {f lo hi : Nat} {d : List Int} (h2 : f + hi ≤ d.length) (h5 : d.length < 2305843009213693951) (hlo : lo < 2305843009213693951) (h6 : HpX f lo hi lo d) :
    ∃ d', eZ d (lo : Nat) (hi : Nat) (f : Nat) = some d' ∧ Rel f (f + hi) d d' ∧ Hp f lo hi d' := by
  unfold eZ kF
  by_cases h : lo < hi
  · obtain ⟨d', e, r, p⟩ := aBK (hi - lo) lo d rfl h2 (Nat.le_refl _) h h5 h6
    rcases e with e | e <;> rw [e] <;> exact ⟨d', rfl, r, p⟩
  · refine ⟨d, ?_, Rel.refl .., fun i c h1 hc hlt => by unfold chd at hc; omega⟩
    have hs : cW (hi : Nat) (f : Nat) d (lo : Nat) = some (.inr (.inl d)) := by
      unfold cW
      have e1 : IntKind.i64.wrap (IntKind.i64.wrap ((2 : Int) * (lo : Int)) + 1) = ((2 * lo + 1 : Nat) : Int) := by
        rw [wrN (x := (2 : Int) * (lo : Int)) (n := 2 * lo) (by omega) (by omega)]; exact wrN (by omega) (by omega)
      have : decide (((hi : Nat) : Int) ≤ ((2 * lo + 1 : Nat) : Int)) = true := by simp; omega
      simp only [e1, this, cond_true]
    rw [cV (show (fun s : List Int × Int => cW (hi : Nat) (f : Nat) s.1 s.2) (d, (lo : Int)) = _ from hs)]
    rfl

theorem YU {f k : Nat} {d : List Int} (h : Hp f 0 k d) : ∀ i, i < k → gN d (f + i) ≤ gN d f := by
  intro i
  induction i using Nat.strongRecOn with
  | ind i ih =>
    intro hi
    by_cases h0 : i = 0
    · subst h0; exact Int.le_refl _
    · have h1 := h ((i - 1) / 2) i (Nat.zero_le _) (by unfold chd; omega) hi
      have h2 := ih ((i - 1) / 2) (by omega) (by omega)
      omega

theorem SU {f hi : Nat} : ∀ (k : Nat) (d : List Int), f + hi ≤ d.length → k < 2305843009213693951 → d.length < 2305843009213693951 → Hp f k hi d →
    ∃ d', lp (fun s : List Int × Int => dZ (f : Nat) 0 (hi : Nat) s.1 s.2) (d, (k : Int) - 1) = some d' ∧ Rel f (f + hi) d d' ∧ Hp f 0 hi d'
  | 0, d, _, _, _, h => by
    refine ⟨d, cV ?_, Rel.refl .., h⟩
    show dZ _ _ _ _ _ = _
    have : decide ((0 : Int) ≤ ((0 : Nat) : Int) - 1) = false := by simp
    simp only [dZ, this, cond_false]
  | k + 1, d, h1, h2, h3, h => by
    obtain ⟨d1, e, r, p⟩ := SS (f := f) (lo := k) (hi := hi) h1 h3 (by omega) ⟨fun i c a1 a2 a3 a4 => h i c (by omega) a3 a4, fun p c a1 a2 => by unfold chd at a2; omega⟩
    obtain ⟨d2, e2, r2, p2⟩ := SU (f := f) (hi := hi) k d1 (by rw [r.len]; exact h1) (by omega) (by rw [r.len]; exact h3) p
    refine ⟨d2, ?_, r.trans r2, p2⟩
    rw [gF (s' := (d1, (k : Int) - 1)) ?_, e2]
    show dZ _ _ _ _ _ = _
    have g1 : (((k + 1 : Nat) : Int) - 1) = (k : Int) := by omega
    have g2 : decide ((0 : Int) ≤ (k : Int)) = true := by simp
    simp only [dZ, g1, g2, cond_true, e, Option.bind_some]
    rw [eH (by omega) (by omega)]

theorem YD {f n : Nat} : ∀ (k : Nat) (d : List Int), k ≤ n → f + n ≤ d.length → d.length < 2305843009213693951 → Hp f 0 k d → oH (f + k) (f + n) d → (∀ p q, f ≤ p → p < f + k → f + k ≤ q → q < f + n → gN d p ≤ gN d q) →
    ∃ d', lp (fun s : List Int × Int => eA (f : Nat) 0 s.1 s.2) (d, (k : Int) - 1) = some d' ∧ Rel f (f + n) d d' ∧ oH f (f + n) d'
  | 0, d, _, _, _, _, hs, _ => by
    refine ⟨d, cV ?_, Rel.refl .., hs⟩
    show eA _ _ _ _ = _
    have : decide ((0 : Int) ≤ ((0 : Nat) : Int) - 1) = false := by simp
    simp only [eA, this, cond_false]
  | k + 1, d, h1, h2, h3, h, hs, hb => by
    have g := rM (d := d) (i := f) (j := f + k) (by omega) (by omega)
    have hroot := YU h
    obtain ⟨d1, e, r, p⟩ := SS (f := f) (lo := 0) (hi := k) (d := swp d f (f + k)) (by rw [gQ]; omega) (by rw [gQ]; exact h3) (by omega) ⟨fun i c a1 a2 a3 a4 => by
      rw [g, g, if_neg (by unfold chd at a3; omega), if_neg (by unfold chd at a3; omega), if_neg (by unfold chd at a3; omega), if_neg (by omega)]
      exact h i c (by omega) a3 (by omega), fun p c a1 a2 => by unfold chd at a2; omega⟩
    have rs : Rel f (f + n) d (swp d f (f + k)) := Rel.swp (i := f) (j := f + k) (by omega) (by omega) (by omega) (by omega)
    have top : gN d1 (f + k) = gN d f := by rw [r.out _ (by omega), g, if_pos rfl]
    have tail : ∀ q, f + k < q → gN d1 q = gN d q := fun q hq => by rw [r.out _ (by omega), g, if_neg (by omega), if_neg (by omega)]
    have low : ∀ p, f ≤ p → p < f + k → ∃ p', f ≤ p' ∧ p' < f + (k + 1) ∧ gN d1 p = gN d p' := fun p p1 p2 => by
      obtain ⟨p', a1, a2, a3⟩ := r.src p p1 p2
      rw [g, if_neg (by omega)] at a3
      by_cases hp : p' = f
      · rw [if_pos hp] at a3; exact ⟨f + k, by omega, by omega, a3⟩
      · rw [if_neg hp] at a3; exact ⟨p', a1, by omega, a3⟩
    obtain ⟨d2, e2, r2, s2⟩ := YD (f := f) (n := n) k d1 (by omega) (by rw [r.len, gQ]; exact h2) (by rw [r.len, gQ]; exact h3) p (fun p q p1 p2 p3 => by
      by_cases hq : q = f + k
      · have : p = f + k := by omega
        rw [hq, this]; exact Int.le_refl _
      · rw [tail q (by omega)]
        by_cases hp : p = f + k
        · rw [hp, top]; exact hb f q (Nat.le_refl _) (by omega) (by omega) p3
        · rw [tail p (by omega)]; exact hs p q (by omega) p2 p3) (fun p q p1 p2 p3 p4 => by
      obtain ⟨p', a1, a2, a3⟩ := low p p1 p2
      rw [a3]
      by_cases hq : q = f + k
      · rw [hq, top]
        have := hroot (p' - f) (by omega)
        rw [show f + (p' - f) = p' by omega] at this
        exact this
      · rw [tail q (by omega)]; exact hb p' q a1 a2 (by omega) p4)
    refine ⟨d2, ?_, (rs.trans (r.mono (Nat.le_refl _) (by omega))).trans r2, s2⟩
    rw [gF (s' := (d1, (k : Int) - 1)) ?_, e2]
    show eA _ _ _ _ = _
    have g1 : (((k + 1 : Nat) : Int) - 1) = (k : Int) := by omega
    have g2 : decide ((0 : Int) ≤ (k : Int)) = true := by simp
    have g3 : IntKind.i64.wrap ((f : Int) + (k : Int)) = ((f + k : Nat) : Int) := wrN (by omega) (by omega)
    simp only [eA, g1, g2, g3, cond_true, Int.toNat_natCast]
    rw [aQ (asN (by omega)), aQ (asN (by omega)), aQ (asN (by omega)), aQ (asN (by omega))]
    have e' : eZ (List.set (List.set d f (List.getD d (f + k) default)) (f + k) (List.getD d f default)) 0 (k : Int) (f : Int) = some d1 := e
    rw [e']
    simp only [Option.bind_some]
    rw [eH (by omega) (by omega)]

theorem XL {lo hi : Nat} {d : List Int} (h0 : lo < hi) (h1 : hi ≤ d.length) (h3 : d.length < 2305843009213693951) : ∃ d', jC d (lo : Int) (hi : Int) = some d' ∧ Rel lo hi d d' ∧ oH lo hi d' := by
  unfold jC
  rw [aQ (by decide)]
  have e1 : IntKind.i64.wrap ((hi : Int) - (lo : Int)) = ((hi - lo : Nat) : Int) := wrN (by omega) (by omega)
  have e2 : IntKind.i64.wrap (((hi - lo : Nat) : Int) - 1) = ((hi - lo - 1 : Nat) : Int) := wrN (by omega) (by omega)
  have e3 : IntKind.i64.wrap (Int.tdiv ((hi - lo - 1 : Nat) : Int) 2) = (((hi - lo - 1) / 2 + 1 : Nat) : Int) - 1 := by
    have : Int.tdiv ((hi - lo - 1 : Nat) : Int) 2 = (((hi - lo - 1) / 2 : Nat) : Int) := by rw [Int.tdiv_eq_ediv_of_nonneg (by omega)]; omega
    rw [this, wrN (n := (hi - lo - 1) / 2) rfl (by omega)]; omega
  rw [e1, e2, e3]
  unfold kG
  obtain ⟨d1, a1, r1, p1⟩ := SU (f := lo) (hi := hi - lo) ((hi - lo - 1) / 2 + 1) d (by omega) (by omega) h3 (fun i c b1 b2 b3 => by unfold chd at b2; omega)
  rw [a1]
  simp only [Option.bind_some, iV, kH]
  obtain ⟨d2, a2, r2, s2⟩ := YD (f := lo) (n := hi - lo) (hi - lo) d1 (Nat.le_refl _) (by rw [r1.len]; omega) (by rw [r1.len]; exact h3) p1 (fun p q b1 b2 b3 => by omega) (fun p q b1 b2 b3 b4 => by omega)
  have e4 : IntKind.i64.wrap (((hi - lo : Nat) : Int) - 1) = ((hi - lo : Nat) : Int) - 1 := eH (by omega) (by omega)
  rw [e4, a2]
  have : lo + (hi - lo) = hi := by omega
  rw [this] at r1 r2 s2
  exact ⟨d2, rfl, r1.trans r2, s2⟩

end Go.Abs
namespace Go.Abs
open Go
def GQ : ByteArray := ⟨#[0, 1, 2, 2, 3, 3, 3, 3, 4, 4, 4, 4, 4, 4, 4, 4, 5, 5, 5, 5, 5, 5, 5, 5, 5, 5, 5, 5, 5, 5, 5, 5, 6, 6, 6, 6, 6, 6, 6, 6, 6, 6, 6, 6, 6, 6, 6, 6, 6, 6, 6, 6, 6, 6, 6, 6, 6, 6, 6, 6, 6, 6, 6, 6, 7, 7, 7, 7, 7, 7, 7, 7, 7, 7, 7, 7, 7, 7, 7, 7, 7, 7, 7, 7, 7, 7, 7, 7, 7, 7, 7, 7, 7, 7, 7, 7, 7, 7, 7, 7, 7, 7, 7, 7, 7, 7, 7, 7, 7, 7, 7, 7, 7, 7, 7, 7, 7, 7, 7, 7, 7, 7, 7, 7, 7, 7, 7, 7, 8, 8, 8, 8, 8, 8, 8, 8, 8, 8, 8, 8, 8, 8, 8, 8, 8, 8, 8, 8, 8, 8, 8, 8, 8, 8, 8, 8, 8, 8, 8, 8, 8, 8, 8, 8, 8, 8, 8, 8, 8, 8, 8, 8, 8, 8, 8, 8, 8, 8, 8, 8, 8, 8, 8, 8, 8, 8, 8, 8, 8, 8, 8, 8, 8, 8, 8, 8, 8, 8, 8, 8, 8, 8, 8, 8, 8, 8, 8, 8, 8, 8, 8, 8, 8, 8, 8, 8, 8, 8, 8, 8, 8, 8, 8, 8, 8, 8, 8, 8, 8, 8, 8, 8, 8, 8, 8, 8, 8, 8, 8, 8, 8, 8, 8, 8, 8, 8, 8, 8, 8, 8, 8, 8, 8, 8, 8, 8]⟩

theorem WX : ∀ i : Fin 256, i.val ≠ 0 → ∃ k : Fin 8, bt GQ (i.val : Int) = (k.val : Int) + 1 ∧ 2 ^ k.val ≤ i.val := by decide +kernel

theorem LF : ByteArray.size GQ = 256 := by decide +kernel

theorem aAT {x : Int} (h : 0 ≤ x) (h2 : x ≤ 255) : IntKind.u8.wrap x = x := by
  simp only [IntKind.wrap, IntKind.bits, IntKind.signed]
  simp
  omega

theorem DQ {x : Int} (h : 0 ≤ x) (h2 : x ≤ 9223372036854775807) : IntKind.u64.wrap x = x := by
  simp only [IntKind.wrap, IntKind.bits, IntKind.signed]
  simp
  omega

theorem XT {x n : Int} (h1 : 1 ≤ x) (h2 : x ≤ 255) (hn : 0 ≤ n ∧ n ≤ 100) : ∃ k : Nat, lO x n = some (n + k + 1) ∧ k ≤ 7 ∧ (2 : Int) ^ k ≤ x := by
  obtain ⟨k, e, hk⟩ := WX ⟨x.toNat, by omega⟩ (by simp; omega)
  refine ⟨k.val, ?_, by omega, ?_⟩
  · show (bG (0 ≤ (IntKind.u8.wrap x) ∧ (IntKind.u8.wrap x) < ((ByteArray.size GQ : Nat) : Int)) <| some (IntKind.i64.wrap (n + (IntKind.i64.wrap (bt GQ (IntKind.u8.wrap x)))))) = _
    rw [aAT (by omega) h2, aQ (by rw [LF]; omega)]
    simp only at e
    rw [Int.toNat_of_nonneg (by omega)] at e
    rw [e, eH (n := (k.val : Int) + 1) (by omega) (by omega), eH (by omega) (by omega)]
    congr 1
    omega
  · simp only at hk
    have : ((2 ^ k.val : Nat) : Int) ≤ ((x.toNat : Nat) : Int) := by exact_mod_cast hk
    rw [Int.toNat_of_nonneg (by omega)] at this
    simpa using this

theorem GF {x m : Int} (hm : 0 < m) : Int.fdiv x m = x / m := Int.fdiv_eq_ediv_of_nonneg _ (by omega)

theorem XD {x n : Int} (h1 : 1 ≤ x) (h2 : x ≤ 65535) (hn : 0 ≤ n ∧ n ≤ 90) : ∃ k : Nat, kJ x n = some (n + k + 1) ∧ k ≤ 15 ∧ (2 : Int) ^ k ≤ x := by
  unfold kJ
  by_cases h : 256 ≤ x
  · have hd : Int.fdiv x (2 ^ (min (Int.toNat (8 : Int)) 64)) = x / 256 := by rw [show (2 ^ (min (Int.toNat (8 : Int)) 64) : Int) = 256 from by decide]; exact GF (by omega)
    obtain ⟨k, e, h3, h4⟩ := XT (x := x / 256) (n := n + 8) (by omega) (by omega) (by omega)
    refine ⟨k + 8, ?_, by omega, ?_⟩
    · simp only [h, decide_true, cond_true]
      rw [aQ (by decide), hd, eH (n := n + 8) (by omega) (by omega), e]
      congr 1; omega
    · rw [Int.pow_add]; have : (2 : Int) ^ 8 = 256 := by decide
      rw [this]; omega
  · obtain ⟨k, e, h3, h4⟩ := XT (x := x) (n := n) h1 (by omega) (by omega)
    exact ⟨k, by simp only [h, decide_false, cond_false, e], by omega, h4⟩

theorem WR {x n : Int} (h1 : 1 ≤ x) (h2 : x ≤ 4294967295) (hn : 0 ≤ n ∧ n ≤ 70) : ∃ k : Nat, kI x n = some (n + k + 1) ∧ k ≤ 31 ∧ (2 : Int) ^ k ≤ x := by
  unfold kI
  by_cases h : 65536 ≤ x
  · have hd : Int.fdiv x (2 ^ (min (Int.toNat (16 : Int)) 64)) = x / 65536 := by rw [show (2 ^ (min (Int.toNat (16 : Int)) 64) : Int) = 65536 from by decide]; exact GF (by omega)
    obtain ⟨k, e, h3, h4⟩ := XD (x := x / 65536) (n := n + 16) (by omega) (by omega) (by omega)
    refine ⟨k + 16, ?_, by omega, ?_⟩
    · simp only [h, decide_true, cond_true]
      rw [aQ (by decide), hd, eH (n := n + 16) (by omega) (by omega), e]
      congr 1; omega
    · rw [Int.pow_add]; have : (2 : Int) ^ 16 = 65536 := by decide
      rw [this]; omega
  · obtain ⟨k, e, h3, h4⟩ := XD (x := x) (n := n) h1 (by omega) (by omega)
    exact ⟨k, by simp only [h, decide_false, cond_false, e], by omega, h4⟩

theorem YJ {x : Int} (h1 : 1 ≤ x) (h2 : x ≤ 9223372036854775807) : ∃ k : Nat, jY x = some ((k : Int) + 1) ∧ k ≤ 63 ∧ (2 : Int) ^ k ≤ x := by
  unfold jY nH
  by_cases h : 4294967296 ≤ x
  · have hd : Int.fdiv x (2 ^ (min (Int.toNat (32 : Int)) 64)) = x / 4294967296 := by rw [show (2 ^ (min (Int.toNat (32 : Int)) 64) : Int) = 4294967296 from by decide]; exact GF (by omega)
    obtain ⟨k, e, h3, h4⟩ := WR (x := x / 4294967296) (n := 32) (by omega) (by omega) (by omega)
    refine ⟨k + 32, ?_, by omega, ?_⟩
    · simp only [h, decide_true, cond_true]
      rw [aQ (by decide), hd, e]
      simp only [Option.bind_some]
      congr 1; omega
    · rw [Int.pow_add]; have : (2 : Int) ^ 32 = 4294967296 := by decide
      rw [this]; omega
  · obtain ⟨k, e, h3, h4⟩ := WR (x := x) (n := 0) h1 (by omega) (by omega)
    refine ⟨k, ?_, by omega, h4⟩
    simp only [h, decide_false, cond_false, e, Option.bind_some]
    congr 1; omega

theorem VY : bt GQ 0 = 0 := by decide +kernel

theorem aAG : jY 0 = some 0 := by
  have h3 : lO 0 0 = some 0 := by
    show (bG (0 ≤ (IntKind.u8.wrap 0) ∧ (IntKind.u8.wrap 0) < ((ByteArray.size GQ : Nat) : Int)) <| some (IntKind.i64.wrap (0 + (IntKind.i64.wrap (bt GQ (IntKind.u8.wrap 0)))))) = _
    rw [aAT (by omega) (by omega), aQ (by rw [LF]; omega), VY, eH (n := 0) (by omega) (by omega), eH (by omega) (by omega)]
    rfl
  have h2 : kJ 0 0 = some 0 := h3
  have h1 : kI 0 0 = some 0 := h2
  unfold jY nH
  have : decide ((4294967296 : Int) ≤ 0) = false := by decide
  rw [this, cond_false, h1]
  rfl

theorem aAD {n : Nat} (h1 : 1 ≤ n) (h2 : n < 2305843009213693951) : ∃ m : Int, kT (n : Int) = some m ∧ 1 ≤ m ∧ m ≤ 2 * n := by
  unfold kT
  rw [DQ (by omega) (by omega)]
  obtain ⟨k, e, h3, h4⟩ := YJ (x := (n : Int)) (by omega) (by omega)
  have hk : (2 : Int) ^ (k + 1) = 2 * 2 ^ k := by rw [Int.pow_succ]; omega
  have hp : (1 : Int) ≤ 2 ^ k := by
    have : (0 : Int) < 2 ^ k := Int.pow_pos (by decide)
    omega
  rw [e]
  simp only [Option.bind_some]
  rw [aQ (by omega), show min (Int.toNat ((k : Int) + 1)) 64 = k + 1 by omega, Int.one_mul, hk, DQ (by omega) (by omega)]
  exact ⟨_, rfl, by omega, by omega⟩

theorem aB7 (x : Int) {m : Int} (h0 : 0 ≤ m) (hm : m ≤ 9223372036854775807) : 0 ≤ bM .and .u64 x m ∧ bM .and .u64 x m ≤ m := by
  have h1 : (BitVec.ofInt IntKind.u64.bits x &&& BitVec.ofInt IntKind.u64.bits m).toNat ≤ m.toNat := by
    rw [BitVec.toNat_and]
    refine Nat.le_trans Nat.and_le_right ?_
    rw [BitVec.toNat_ofInt]
    have : IntKind.u64.bits = 64 := rfl
    rw [this]
    omega
  have h2 : bM .and .u64 x m = ((BitVec.ofInt IntKind.u64.bits x &&& BitVec.ofInt IntKind.u64.bits m).toNat : Int) := DQ (by omega) (by omega)
  rw [h2]
  omega

theorem UW (r : Int) : ∃ x, lC r = some x := by
  unfold lC
  rw [aQ (by decide), aQ (by decide), aQ (by decide)]
  exact ⟨_, rfl⟩

theorem WZ {lo i o : Nat} {d : List Int} (l r m : Int) (hi : i < d.length) (ho : lo + o < d.length) (hl : d.length < 2305843009213693951) :
    eS d (lo : Nat) l r m (i : Nat) (o : Nat) = some (.inl (swp d i (lo + o), r, ((i + 1 : Nat) : Int))) := by
  unfold eS
  rw [wrN (x := (lo : Int) + (o : Int)) (n := lo + o) (by omega) (by omega), wrN (n := i + 1) (by omega) (by omega)]
  simp only [Int.toNat_natCast]
  rw [aQ (asN (by omega)), aQ (asN (by omega)), aQ (asN (by omega)), aQ (asN (by omega))]
  rfl

theorem aCc {lo n : Nat} {m : Int} (hm : 1 ≤ m ∧ m ≤ 2 * n) (h8 : 8 ≤ n) : ∀ (q i : Nat) (r : Int) (d : List Int), lo + n / 4 * 2 + 2 - i = q → lo ≤ i → i ≤ lo + n / 4 * 2 + 2 → lo + n ≤ d.length → d.length < 2305843009213693951 →
    ∃ d', lp (fun s : List Int × Int × Int => cS (lo : Nat) (n : Nat) m s.1 s.2.1 s.2.2) (d, r, (i : Int)) = some d' ∧ Rel lo (lo + n) d d' := by
  have t4 : IntKind.i64.wrap (Int.tdiv (n : Int) 4) = ((n / 4 : Nat) : Int) ∨ 2305843009213693951 ≤ n := by
    by_cases h : n < 2305843009213693951
    · left
      have : Int.tdiv (n : Int) 4 = ((n / 4 : Nat) : Int) := by rw [Int.tdiv_eq_ediv_of_nonneg (by omega)]; omega
      rw [this]; exact wrN rfl (by omega)
    · right; omega
  intro q
  induction q with
  | zero =>
    intro i r d h1 h2 h3 h4 h5
    have t4 := t4.resolve_right (by omega)
    refine ⟨d, cV ?_, Rel.refl ..⟩
    show cS _ _ _ _ _ _ = _
    unfold cS
    rw [aQ (by decide), t4, wrN (x := ((n / 4 : Nat) : Int) * 2) (n := n / 4 * 2) (by omega) (by omega), wrN (x := (lo : Int) + ((n / 4 * 2 : Nat) : Int)) (n := lo + n / 4 * 2) (by omega) (by omega), wrN (x := ((lo + n / 4 * 2 : Nat) : Int) + 1) (n := lo + n / 4 * 2 + 1) (by omega) (by omega)]
    have : decide (((i : Nat) : Int) ≤ ((lo + n / 4 * 2 + 1 : Nat) : Int)) = false := by simp; omega
    rw [this, cond_false]
  | succ q ih =>
    intro i r d h1 h2 h3 h4 h5
    have t4 := t4.resolve_right (by omega)
    obtain ⟨x, hx⟩ := UW r
    obtain ⟨a1, a2⟩ := aB7 x.1 (m := m - 1) (by omega) (by omega)
    have hd : decide (((i : Nat) : Int) ≤ ((lo + n / 4 * 2 + 1 : Nat) : Int)) = true := by simp; omega
    have step : ∃ o, o < n ∧ cS (lo : Nat) (n : Nat) m d r (i : Nat) = some (.inl (swp d i (lo + o), x.2, ((i + 1 : Nat) : Int))) := by
      unfold cS
      rw [aQ (by decide), t4, wrN (x := ((n / 4 : Nat) : Int) * 2) (n := n / 4 * 2) (by omega) (by omega), wrN (x := (lo : Int) + ((n / 4 * 2 : Nat) : Int)) (n := lo + n / 4 * 2) (by omega) (by omega), wrN (x := ((lo + n / 4 * 2 : Nat) : Int) + 1) (n := lo + n / 4 * 2 + 1) (by omega) (by omega), hd, cond_true, hx]
      simp only [Option.bind_some]
      rw [DQ (x := m - 1) (by omega) (by omega)]
      have e1 : IntKind.i64.wrap (bM .and .u64 x.1 (m - 1)) = (((bM .and .u64 x.1 (m - 1)).toNat : Nat) : Int) := wrN (by omega) (by omega)
      rw [e1]
      by_cases h : (n : Int) ≤ (((bM .and .u64 x.1 (m - 1)).toNat : Nat) : Int)
      · refine ⟨(bM .and .u64 x.1 (m - 1)).toNat - n, by omega, ?_⟩
        simp only [h, decide_true, cond_true]
        rw [wrN (x := (((bM .and .u64 x.1 (m - 1)).toNat : Nat) : Int) - (n : Int)) (n := (bM .and .u64 x.1 (m - 1)).toNat - n) (by omega) (by omega)]
        exact WZ _ _ _ (by omega) (by omega) h5
      · refine ⟨(bM .and .u64 x.1 (m - 1)).toNat, by omega, ?_⟩
        simp only [h, decide_false, cond_false]
        exact WZ _ _ _ (by omega) (by omega) h5
    obtain ⟨o, ho, hs⟩ := step
    obtain ⟨d', e, rl⟩ := ih (i + 1) x.2 (swp d i (lo + o)) (by omega) (by omega) (by omega) (by rw [gQ]; exact h4) (by rw [gQ]; exact h5)
    exact ⟨d', (gF (show (fun s : List Int × Int × Int => cS (lo : Nat) (n : Nat) m s.1 s.2.1 s.2.2) (d, r, (i : Int)) = _ from hs)).trans e, (Rel.swp (i := i) (j := lo + o) (by omega) (by omega) (by omega) (by omega)).trans rl⟩

theorem WM {lo hi : Nat} {d : List Int} (h8 : 8 ≤ hi - lo) (h1 : hi ≤ d.length) (h2 : d.length < 2305843009213693951) : ∃ d', gJ d (lo : Int) (hi : Int) = some d' ∧ Rel lo hi d d' := by
  unfold gJ
  have e1 : IntKind.i64.wrap ((hi : Int) - (lo : Int)) = ((hi - lo : Nat) : Int) := wrN (by omega) (by omega)
  have d1 : decide ((8 : Int) ≤ ((hi - lo : Nat) : Int)) = true := by simp; omega
  obtain ⟨m, em, m1, m2⟩ := aAD (n := hi - lo) (by omega) (by omega)
  have t4 : IntKind.i64.wrap (Int.tdiv ((hi - lo : Nat) : Int) 4) = (((hi - lo) / 4 : Nat) : Int) := by
    have : Int.tdiv ((hi - lo : Nat) : Int) 4 = (((hi - lo) / 4 : Nat) : Int) := by rw [Int.tdiv_eq_ediv_of_nonneg (by omega)]; omega
    rw [this]; exact wrN rfl (by omega)
  rw [e1, d1, cond_true, em]
  simp only [Option.bind_some]
  rw [aQ (by decide), t4, wrN (x := (((hi - lo) / 4 : Nat) : Int) * 2) (n := (hi - lo) / 4 * 2) (by omega) (by omega), wrN (x := (lo : Int) + (((hi - lo) / 4 * 2 : Nat) : Int)) (n := lo + (hi - lo) / 4 * 2) (by omega) (by omega), wrN (x := ((lo + (hi - lo) / 4 * 2 : Nat) : Int) - 1) (n := lo + (hi - lo) / 4 * 2 - 1) (by omega) (by omega)]
  unfold jA
  obtain ⟨d', e, r⟩ := aCc (lo := lo) (n := hi - lo) (m := m) ⟨m1, m2⟩ h8 (lo + (hi - lo) / 4 * 2 + 2 - (lo + (hi - lo) / 4 * 2 - 1)) (lo + (hi - lo) / 4 * 2 - 1) (IntKind.u64.wrap ((hi - lo : Nat) : Int)) d rfl (by omega) (by omega) (by omega) h2
  rw [e]
  have : lo + (hi - lo) = hi := by omega
  rw [this] at r
  exact ⟨d', rfl, r⟩

theorem aAM {a b : Nat} {d : List Int} (s : Int) (ha : a < d.length) (hb : b < d.length) : ∃ (p q : Nat) (s' : Int), fS d (a : Int) (b : Int) s = some (((p : Int), (q : Int)), s') ∧ ((p = a ∧ q = b) ∨ (p = b ∧ q = a)) := by
  unfold fS
  rw [aQ (asN hb), aQ (asN ha), qE]
  simp only [Option.bind_some]
  cases decide (d.getD (Int.toNat (b : Int)) default < d.getD (Int.toNat (a : Int)) default)
  · exact ⟨a, b, _, rfl, .inl ⟨rfl, rfl⟩⟩
  · exact ⟨b, a, _, rfl, .inr ⟨rfl, rfl⟩⟩

theorem med {a b c : Nat} {d : List Int} (s : Int) (ha : a < d.length) (hb : b < d.length) (hc : c < d.length) : ∃ (p : Nat) (s' : Int), iE d (a : Int) (b : Int) (c : Int) s = some ((p : Int), s') ∧ (p = a ∨ p = b ∨ p = c) := by
  unfold iE
  obtain ⟨p1, q1, s1, e1, h1⟩ := aAM s ha hb
  obtain ⟨p2, q2, s2, e2, h2⟩ := aAM (a := q1) (b := c) (d := d) s1 (by omega) hc
  obtain ⟨p3, q3, s3, e3, h3⟩ := aAM (a := p1) (b := p2) (d := d) s2 (by omega) (by omega)
  rw [e1]; simp only [Option.bind_some]
  rw [e2]; simp only [Option.bind_some]
  rw [e3]
  exact ⟨q3, s3, rfl, by omega⟩

theorem ZI {a : Nat} {d : List Int} (s : Int) (h1 : 1 ≤ a) (ha : a + 1 < d.length) (hl : d.length < 2305843009213693951) : ∃ (p : Nat) (s' : Int), dS d (a : Int) s = some ((p : Int), s') ∧ a - 1 ≤ p ∧ p ≤ a + 1 := by
  unfold dS
  rw [wrN (x := (a : Int) - 1) (n := a - 1) (by omega) (by omega), wrN (x := (a : Int) + 1) (n := a + 1) (by omega) (by omega)]
  obtain ⟨p, s', e, h⟩ := med (a := a - 1) (b := a) (c := a + 1) (d := d) s (by omega) (by omega) (by omega)
  rw [e]
  exact ⟨p, s', rfl, by omega, by omega⟩

theorem aA0 (d : List Int) (s : Int) (j : Int) : ∃ h, fB d s j = some (j, h) := by
  unfold fB
  cases decide (s = 0) <;> cases decide (s = 12) <;> exact ⟨_, rfl⟩

theorem TS {lo hi : Nat} {d : List Int} (h8 : 12 < hi - lo) (h1 : hi ≤ d.length) (h2 : d.length < 2305843009213693951) : ∃ (p : Nat) (h : Int), hY d (lo : Int) (hi : Int) = some ((p : Int), h) ∧ lo ≤ p ∧ p < hi := by
  unfold hY
  have e1 : IntKind.i64.wrap ((hi : Int) - (lo : Int)) = ((hi - lo : Nat) : Int) := wrN (by omega) (by omega)
  have t4 : IntKind.i64.wrap (Int.tdiv ((hi - lo : Nat) : Int) 4) = (((hi - lo) / 4 : Nat) : Int) := by
    have : Int.tdiv ((hi - lo : Nat) : Int) 4 = (((hi - lo) / 4 : Nat) : Int) := by rw [Int.tdiv_eq_ediv_of_nonneg (by omega)]; omega
    rw [this]; exact wrN rfl (by omega)
  have d1 : decide ((8 : Int) ≤ ((hi - lo : Nat) : Int)) = true := by simp; omega
  have q1 : IntKind.i64.wrap ((lo : Int) + IntKind.i64.wrap ((((hi - lo) / 4 : Nat) : Int) * 1)) = ((lo + (hi - lo) / 4 : Nat) : Int) := by
    rw [wrN (x := (((hi - lo) / 4 : Nat) : Int) * 1) (n := (hi - lo) / 4) (by omega) (by omega)]; exact wrN (by omega) (by omega)
  have q2 : IntKind.i64.wrap ((lo : Int) + IntKind.i64.wrap ((((hi - lo) / 4 : Nat) : Int) * 2)) = ((lo + (hi - lo) / 4 * 2 : Nat) : Int) := by
    rw [wrN (x := (((hi - lo) / 4 : Nat) : Int) * 2) (n := (hi - lo) / 4 * 2) (by omega) (by omega)]; exact wrN (by omega) (by omega)
  have q3 : IntKind.i64.wrap ((lo : Int) + IntKind.i64.wrap ((((hi - lo) / 4 : Nat) : Int) * 3)) = ((lo + (hi - lo) / 4 * 3 : Nat) : Int) := by
    rw [wrN (x := (((hi - lo) / 4 : Nat) : Int) * 3) (n := (hi - lo) / 4 * 3) (by omega) (by omega)]; exact wrN (by omega) (by omega)
  rw [aQ (by decide), aQ (by decide), aQ (by decide)]
  simp only [e1, t4, d1, q1, q2, q3, cond_true]
  by_cases h50 : (50 : Int) ≤ ((hi - lo : Nat) : Int)
  · simp only [h50, decide_true, cond_true]
    obtain ⟨p1, s1, f1, g1, g2⟩ := ZI (a := lo + (hi - lo) / 4) (d := d) 0 (by omega) (by omega) h2
    obtain ⟨p2, s2, f2, g3, g4⟩ := ZI (a := lo + (hi - lo) / 4 * 2) (d := d) s1 (by omega) (by omega) h2
    obtain ⟨p3, s3, f3, g5, g6⟩ := ZI (a := lo + (hi - lo) / 4 * 3) (d := d) s2 (by omega) (by omega) h2
    obtain ⟨p4, s4, f4, g7⟩ := med (a := p1) (b := p2) (c := p3) (d := d) s3 (by omega) (by omega) (by omega)
    obtain ⟨h, f5⟩ := aA0 d s4 p4
    rw [f1]; simp only [Option.bind_some]
    rw [f2]; simp only [Option.bind_some]
    rw [f3]; simp only [Option.bind_some, fA]
    rw [f4]; simp only [Option.bind_some]
    exact ⟨p4, h, f5, by omega, by omega⟩
  · simp only [h50, decide_false, cond_false, fA]
    obtain ⟨p4, s4, f4, g7⟩ := med (a := lo + (hi - lo) / 4) (b := lo + (hi - lo) / 4 * 2) (c := lo + (hi - lo) / 4 * 3) (d := d) 0 (by omega) (by omega) (by omega)
    obtain ⟨h, f5⟩ := aA0 d s4 p4
    rw [f4]; simp only [Option.bind_some]
    exact ⟨p4, h, f5, by omega, by omega⟩

end Go.Abs
namespace Go.Abs
open Go
theorem JN {body : List Int × Int → Option ((List Int × Int) ⊕ (List Int × Int))} {d : List Int} {p : Nat → Prop} [DecidablePred p] {j : Nat}
    (hs : ∀ i, i ≤ j + 1 → body (d, (i : Int)) = if i ≤ j ∧ p i then some (.inl (d, ((i + 1 : Nat) : Int))) else some (.inr (d, (i : Int)))) :
    ∀ (n i : Nat), j + 1 - i = n → i ≤ j + 1 → ∃ i' : Nat, lp body (d, (i : Int)) = some (d, (i' : Int)) ∧ i ≤ i' ∧ i' ≤ j + 1 ∧ (∀ k, i ≤ k → k < i' → p k) ∧ (i' ≤ j → ¬ p i') := by
  intro n
  induction n with
  | zero =>
    intro i h1 h2
    have := hs i h2
    rw [if_neg (by omega)] at this
    exact ⟨i, cV this, Nat.le_refl _, h2, fun k a b => by omega, fun h => by omega⟩
  | succ n ih =>
    intro i h1 h2
    have h := hs i h2
    by_cases hp : p i
    · rw [if_pos ⟨by omega, hp⟩] at h
      obtain ⟨i', e, a1, a2, a3, a4⟩ := ih (i + 1) (by omega) (by omega)
      refine ⟨i', (gF h).trans e, by omega, a2, fun k b1 b2 => ?_, a4⟩
      by_cases hk : k = i
      · rw [hk]; exact hp
      · exact a3 k (by omega) b2
    · rw [if_neg fun hh => hp hh.2] at h
      exact ⟨i, cV h, Nat.le_refl _, h2, fun k a b => by omega, fun _ => hp⟩

theorem ED {body : List Int × Int → Option ((List Int × Int) ⊕ (List Int × Int))} {d : List Int} {p : Nat → Prop} [DecidablePred p] {i m : Nat} (hi : 1 ≤ i)
    (hs : ∀ j, j ≤ m → body (d, (j : Int)) = if i ≤ j ∧ p j then some (.inl (d, ((j - 1 : Nat) : Int))) else some (.inr (d, (j : Int)))) :
    ∀ (j : Nat), j ≤ m → i ≤ j + 1 → ∃ j' : Nat, lp body (d, (j : Int)) = some (d, (j' : Int)) ∧ i ≤ j' + 1 ∧ j' ≤ j ∧ (∀ k, j' < k → k ≤ j → p k) ∧ (i ≤ j' → ¬ p j') := by
  intro j
  induction j with
  | zero =>
    intro h1 h2
    have := hs 0 h1
    rw [if_neg (by omega)] at this
    exact ⟨0, cV this, by omega, Nat.le_refl _, fun k a b => by omega, fun h => by omega⟩
  | succ j ih =>
    intro h1 h2
    have h := hs (j + 1) h1
    by_cases hp : i ≤ j + 1 ∧ p (j + 1)
    · rw [if_pos hp] at h
      obtain ⟨j', e, a1, a2, a3, a4⟩ := ih (by omega) (by omega)
      refine ⟨j', (gF h).trans e, a1, by omega, fun k b1 b2 => ?_, a4⟩
      by_cases hk : k = j + 1
      · rw [hk]; exact hp.2
      · exact a3 k b1 (by omega)
    · rw [if_neg hp] at h
      exact ⟨j + 1, cV h, by omega, Nat.le_refl _, fun k a b => by omega, fun h1 h2 => hp ⟨h1, h2⟩⟩

theorem SM {α : Type} {i j u v : Nat} {d : List Int} {n : Bool} {x y : Option α} (hu : i ≤ j → u < d.length) (hv : i ≤ j → v < d.length) :
    (bG ((decide ((i : Int) ≤ (j : Int))) = true → 0 ≤ (u : Int) ∧ (u : Int) < ((List.length d : Nat) : Int)) <|
    bG ((decide ((i : Int) ≤ (j : Int))) = true → 0 ≤ (v : Int) ∧ (v : Int) < ((List.length d : Nat) : Int)) <|
    (dG (decide ((i : Int) ≤ (j : Int))) (cY (List.getD d (Int.toNat (u : Int)) default) (List.getD d (Int.toNat (v : Int)) default))).bind fun z =>
    cond ((decide ((i : Int) ≤ (j : Int))) && (Bool.xor n z)) x y) = if i ≤ j ∧ (Bool.xor n (decide (gN d u < gN d v))) = true then x else y := by
  by_cases h : i ≤ j
  · have hd : decide ((i : Int) ≤ (j : Int)) = true := by simp; omega
    rw [hd]
    rw [aQ fun _ => asN (hu h), aQ fun _ => asN (hv h)]
    simp only [dG, cond_true, qE, Option.bind_some, Bool.true_and, Int.toNat_natCast, h, true_and, gN]
    cases Bool.xor n (decide (d.getD u default < d.getD v default)) <;> simp
  · have hd : decide ((i : Int) ≤ (j : Int)) = false := by simp; omega
    rw [hd, aQ (fun h => by cases h), aQ (fun h => by cases h)]
    simp [dG, h]

theorem GU {α : Type} {i j u v : Nat} {d : List Int} {x y : Option α} (hu : i ≤ j → u < d.length) (hv : i ≤ j → v < d.length) :
    (bG ((decide ((i : Int) ≤ (j : Int))) = true → 0 ≤ (u : Int) ∧ (u : Int) < ((List.length d : Nat) : Int)) <|
    bG ((decide ((i : Int) ≤ (j : Int))) = true → 0 ≤ (v : Int) ∧ (v : Int) < ((List.length d : Nat) : Int)) <|
    (dG (decide ((i : Int) ≤ (j : Int))) (cY (List.getD d (Int.toNat (u : Int)) default) (List.getD d (Int.toNat (v : Int)) default))).bind fun z =>
    cond ((decide ((i : Int) ≤ (j : Int))) && z) x y) = if i ≤ j ∧ gN d u < gN d v then x else y := by
  have := SM (n := false) (x := x) (y := y) hu hv
  simp only [Bool.false_xor] at this
  exact this.trans (by simp)

theorem GG {α : Type} {i j u v : Nat} {d : List Int} {x y : Option α} (hu : i ≤ j → u < d.length) (hv : i ≤ j → v < d.length) :
    (bG ((decide ((i : Int) ≤ (j : Int))) = true → 0 ≤ (u : Int) ∧ (u : Int) < ((List.length d : Nat) : Int)) <|
    bG ((decide ((i : Int) ≤ (j : Int))) = true → 0 ≤ (v : Int) ∧ (v : Int) < ((List.length d : Nat) : Int)) <|
    (dG (decide ((i : Int) ≤ (j : Int))) (cY (List.getD d (Int.toNat (u : Int)) default) (List.getD d (Int.toNat (v : Int)) default))).bind fun z =>
    cond ((decide ((i : Int) ≤ (j : Int))) && (!z)) x y) = if i ≤ j ∧ ¬ gN d u < gN d v then x else y := by
  have := SM (n := true) (x := x) (y := y) hu hv
  simp only [Bool.true_xor] at this
  exact this.trans (by simp)

theorem aA1 {a j : Nat} {d : List Int} (ha : a < d.length) (hj : j < d.length) (hl : d.length < 2305843009213693951) : ∀ i, i ≤ j + 1 → eE (a : Nat) (j : Nat) d (i : Nat) = if i ≤ j ∧ gN d i < gN d a then some (.inl (d, ((i + 1 : Nat) : Int))) else some (.inr (d, (i : Int))) := by
  intro i hi
  unfold eE
  rw [wrN (x := (i : Int) + 1) (n := i + 1) (by omega) (by omega)]
  exact GU (u := i) (v := a) (by omega) (by omega)

theorem aAd {a j : Nat} {d : List Int} (ha : a < d.length) (hj : j < d.length) (hl : d.length < 2305843009213693951) : ∀ i, i ≤ j + 1 → eN (a : Nat) (j : Nat) d (i : Nat) = if i ≤ j ∧ gN d i < gN d a then some (.inl (d, ((i + 1 : Nat) : Int))) else some (.inr (d, (i : Int))) := by
  intro i hi
  unfold eN
  rw [wrN (x := (i : Int) + 1) (n := i + 1) (by omega) (by omega)]
  exact GU (u := i) (v := a) (by omega) (by omega)

theorem XN {a i m : Nat} {d : List Int} (hi : 1 ≤ i) (ha : a < d.length) (hm : m < d.length) (hl : d.length < 2305843009213693951) : ∀ j, j ≤ m → eO (a : Nat) (i : Nat) d (j : Nat) = if i ≤ j ∧ ¬ gN d j < gN d a then some (.inl (d, ((j - 1 : Nat) : Int))) else some (.inr (d, (j : Int))) := by
  intro j hj
  unfold eO
  refine (GG (i := i) (j := j) (d := d) (α := (List Int × Int) ⊕ (List Int × Int)) (u := j) (v := a) (x := some (.inl (d, IntKind.i64.wrap ((j : Int) - 1)))) (y := some (.inr (d, (j : Int)))) (by omega) (by omega)).trans ?_
  by_cases h : i ≤ j ∧ ¬ gN d j < gN d a
  · rw [if_pos h, if_pos h, wrN (x := (j : Int) - 1) (n := j - 1) (by omega) (by omega)]
  · rw [if_neg h, if_neg h]

theorem UG {a i m : Nat} {d : List Int} (hi : 1 ≤ i) (ha : a < d.length) (hm : m < d.length) (hl : d.length < 2305843009213693951) : ∀ j, j ≤ m → eK (a : Nat) (i : Nat) d (j : Nat) = if i ≤ j ∧ ¬ gN d j < gN d a then some (.inl (d, ((j - 1 : Nat) : Int))) else some (.inr (d, (j : Int))) := by
  intro j hj
  unfold eK
  refine (GG (i := i) (j := j) (d := d) (α := (List Int × Int) ⊕ (List Int × Int)) (u := j) (v := a) (x := some (.inl (d, IntKind.i64.wrap ((j : Int) - 1)))) (y := some (.inr (d, (j : Int)))) (by omega) (by omega)).trans ?_
  by_cases h : i ≤ j ∧ ¬ gN d j < gN d a
  · rw [if_pos h, if_pos h, wrN (x := (j : Int) - 1) (n := j - 1) (by omega) (by omega)]
  · rw [if_neg h, if_neg h]

theorem ZU {a j : Nat} {d : List Int} (ha : a < d.length) (hj : j < d.length) (hl : d.length < 2305843009213693951) : ∀ i, i ≤ j + 1 → dP (a : Nat) (j : Nat) d (i : Nat) = if i ≤ j ∧ ¬ gN d a < gN d i then some (.inl (d, ((i + 1 : Nat) : Int))) else some (.inr (d, (i : Int))) := by
  intro i hi
  unfold dP
  rw [wrN (x := (i : Int) + 1) (n := i + 1) (by omega) (by omega)]
  exact GG (u := a) (v := i) (by omega) (by omega)

theorem TK {a i m : Nat} {d : List Int} (hi : 1 ≤ i) (ha : a < d.length) (hm : m < d.length) (hl : d.length < 2305843009213693951) : ∀ j, j ≤ m → dO (a : Nat) (i : Nat) d (j : Nat) = if i ≤ j ∧ gN d a < gN d j then some (.inl (d, ((j - 1 : Nat) : Int))) else some (.inr (d, (j : Int))) := by
  intro j hj
  unfold dO
  refine (GU (i := i) (j := j) (d := d) (α := (List Int × Int) ⊕ (List Int × Int)) (u := a) (v := j) (x := some (.inl (d, IntKind.i64.wrap ((j : Int) - 1)))) (y := some (.inr (d, (j : Int)))) (by omega) (by omega)).trans ?_
  by_cases h : i ≤ j ∧ gN d a < gN d j
  · rw [if_pos h, if_pos h, wrN (x := (j : Int) - 1) (n := j - 1) (by omega) (by omega)]
  · rw [if_neg h, if_neg h]

structure xO (a b i j : Nat) (d : List Int) : Prop where
  hi : a < i
  hij : i ≤ j + 1
  hj : j < b
  lo : ∀ k, a < k → k < i → gN d k < gN d a
  up : ∀ k, j < k → k < b → gN d a ≤ gN d k

theorem xO.swap {a b i j : Nat} {d : List Int} (h : xO a b i j d) (hb : b ≤ d.length) (hij : i < j) (h1 : gN d a ≤ gN d i) (h2 : gN d j < gN d a) : xO a b (i + 1) (j - 1) (swp d i j) := by
  have := h.hi; have := h.hj
  have g := rM (d := d) (i := i) (j := j) (by omega) (by omega)
  have ga : gN (swp d i j) a = gN d a := by rw [g, if_neg (by omega), if_neg (by omega)]
  refine ⟨by omega, by omega, by omega, fun k k1 k2 => ?_, fun k k1 k2 => ?_⟩
  · rw [ga, g, if_neg (by omega)]
    by_cases hk : k = i
    · rw [if_pos hk]; exact h2
    · rw [if_neg hk]; exact h.lo k k1 (by omega)
  · rw [ga, g]
    by_cases hk : k = j
    · rw [if_pos hk]; exact h1
    · rw [if_neg hk, if_neg (by omega)]; exact h.up k (by omega) k2

theorem HB {a b i j : Nat} {d : List Int} (h : xO a b i j d) (hb : b ≤ d.length) (hl : d.length < 2305843009213693951) : ∃ i' j' : Nat, xO a b i' j' d ∧ i ≤ i' ∧ j' ≤ j ∧ (j' < i' → j' + 1 = i') ∧ (i' ≤ j' → i' < j' ∧ gN d a ≤ gN d i' ∧ gN d j' < gN d a) ∧
    dA (a : Nat) d (i : Nat) (j : Nat) = eJ d (a : Nat) (i' : Nat) (j' : Nat) ∧ fH d (a : Nat) (i : Nat) (j : Nat) = eP d (a : Nat) (i' : Nat) (j' : Nat) := by
  have h1 := h.hi; have h2 := h.hij; have h3 := h.hj
  obtain ⟨i', e1, a1, a2, a3, a4⟩ := JN (body := fun s => eN (a : Nat) (j : Nat) s.1 s.2) (d := d) (p := fun k => gN d k < gN d a) (j := j) (aAd (a := a) (j := j) (d := d) (by omega) (by omega) hl) (j + 1 - i) i rfl h2
  obtain ⟨i2, e1', b1, b2, b3, b4⟩ := JN (body := fun s => eE (a : Nat) (j : Nat) s.1 s.2) (d := d) (p := fun k => gN d k < gN d a) (j := j) (aA1 (a := a) (j := j) (d := d) (by omega) (by omega) hl) (j + 1 - i) i rfl h2
  have hii : i2 = i' := by
    rcases Nat.lt_trichotomy i2 i' with hh | hh | hh
    · exact absurd (a3 i2 b1 hh) (b4 (by omega))
    · exact hh
    · exact absurd (b3 i' a1 hh) (a4 (by omega))
  subst hii
  obtain ⟨j', f1, c1, c2, c3, c4⟩ := ED (body := fun s => eK (a : Nat) (i2 : Nat) s.1 s.2) (d := d) (p := fun k => ¬ gN d k < gN d a) (i := i2) (m := j) (by omega) (UG (a := a) (i := i2) (m := j) (d := d) (by omega) (by omega) (by omega) hl) j (Nat.le_refl _) a2
  obtain ⟨j2, f1', g1, g2, g3, g4⟩ := ED (body := fun s => eO (a : Nat) (i2 : Nat) s.1 s.2) (d := d) (p := fun k => ¬ gN d k < gN d a) (i := i2) (m := j) (by omega) (XN (a := a) (i := i2) (m := j) (d := d) (by omega) (by omega) (by omega) hl) j (Nat.le_refl _) a2
  have hjj : j2 = j' := by
    rcases Nat.lt_trichotomy j2 j' with hh | hh | hh
    · exact absurd (g3 j' hh c2) (c4 (by omega))
    · exact hh
    · exact absurd (c3 j2 hh g2) (g4 (by omega))
  subst hjj
  have hend : i2 ≤ j2 → i2 < j2 ∧ gN d a ≤ gN d i2 ∧ gN d j2 < gN d a := fun hh => by
    have k1 : ¬ gN d i2 < gN d a := a4 (by omega)
    have k2 : gN d j2 < gN d a := Classical.byContradiction fun hn => c4 hh hn
    refine ⟨?_, by omega, k2⟩
    rcases Nat.lt_or_ge i2 j2 with h | h
    · exact h
    · have : i2 = j2 := by omega
      rw [this] at k1; exact absurd k2 k1
  refine ⟨i2, j2, ⟨by omega, by omega, by omega, fun k k1 k2 => ?_, fun k k1 k2 => ?_⟩, a1, c2, fun hh => by omega, hend, ?_, ?_⟩
  · by_cases hk : k < i
    · exact h.lo k k1 hk
    · exact a3 k (by omega) k2
  · by_cases hk : j < k
    · exact h.up k hk k2
    · have := c3 k k1 (by omega); omega
  · unfold dA kA
    rw [show lp (fun s : List Int × Int => eN (a : Nat) (j : Nat) s.1 s.2) (d, (i : Int)) = some (d, (i2 : Int)) from e1]
    simp only [Option.bind_some]
    unfold iJ jW
    rw [show lp (fun s : List Int × Int => eK (a : Nat) (i2 : Nat) s.1 s.2) (d, (j : Int)) = some (d, (j2 : Int)) from f1]
    rfl
  · unfold fH
    rw [show lp (fun s : List Int × Int => eE (a : Nat) (j : Nat) s.1 s.2) (d, (i : Int)) = some (d, (i2 : Int)) from e1']
    simp only [Option.bind_some]
    unfold iG jV
    rw [show lp (fun s : List Int × Int => eO (a : Nat) (i2 : Nat) s.1 s.2) (d, (j : Int)) = some (d, (j2 : Int)) from f1']
    rfl

theorem xO.rel {a b i j : Nat} {d : List Int} (h : xO a b i j d) (hb : b ≤ d.length) (hij : i ≤ j) : Rel (a + 1) b d (swp d i j) := by
  have := h.hi; have := h.hj
  exact Rel.swp (i := i) (j := j) (by omega) (by omega) (by omega) (by omega)

theorem aBe {a b : Nat} : ∀ (n i j : Nat) (d : List Int), j + 1 - i = n → b ≤ d.length → d.length < 2305843009213693951 → xO a b i j d →
    ∃ (d' : List Int) (j' : Nat), lp (fun s : List Int × Int × Int => dA (a : Nat) s.1 s.2.1 s.2.2) (d, (i : Int), (j : Int)) = some (d', (j' : Int)) ∧ Rel (a + 1) b d d' ∧ xO a b (j' + 1) j' d' := by
  intro n
  induction n using Nat.strongRecOn with
  | ind n ih =>
    intro i j d h1 h2 h3 h
    obtain ⟨i', j', p1, p2, p3, p4, p5, p6, _⟩ := HB h h2 h3
    have q1 := p1.hi; have q2 := p1.hj; have q3 := p1.hij
    by_cases hlt : j' < i'
    · have hs : dA (a : Nat) d (i : Nat) (j : Nat) = some (.inr (d, (j' : Int))) := by
        rw [p6]
        unfold eJ
        have : decide ((j' : Int) < (i' : Int)) = true := by simp; omega
        rw [this, cond_true]
      have := p4 hlt
      exact ⟨d, j', cV hs, Rel.refl .., by rw [this]; exact p1⟩
    · obtain ⟨k1, k2, k3⟩ := p5 (by omega)
      have hs : dA (a : Nat) d (i : Nat) (j : Nat) = some (.inl (swp d i' j', ((i' + 1 : Nat) : Int), ((j' - 1 : Nat) : Int))) := by
        rw [p6]
        unfold eJ
        have : decide ((j' : Int) < (i' : Int)) = false := by simp; omega
        rw [this, cond_false]
        simp only [Int.toNat_natCast]
        rw [aQ (asN (by omega)), aQ (asN (by omega)), aQ (asN (by omega)), aQ (asN (by omega)), wrN (x := (i' : Int) + 1) (n := i' + 1) (by omega) (by omega), wrN (x := (j' : Int) - 1) (n := j' - 1) (by omega) (by omega)]
        rfl
      obtain ⟨d', j2, e, r, p⟩ := ih (j' - 1 + 1 - (i' + 1)) (by omega) (i' + 1) (j' - 1) (swp d i' j') rfl (by rw [gQ]; exact h2) (by rw [gQ]; exact h3) (p1.swap h2 k1 k2 k3)
      exact ⟨d', j2, (gF hs).trans e, (p1.rel h2 (by omega)).trans r, p⟩

theorem NO {a b j : Nat} {d : List Int} (h : xO a b (j + 1) j d) (hb : b ≤ d.length) : Rel a b d (swp d j a) ∧ (∀ k, a ≤ k → k < j → gN (swp d j a) k ≤ gN (swp d j a) j) ∧ (∀ k, j < k → k < b → gN (swp d j a) j ≤ gN (swp d j a) k) := by
  have h1 := h.hi; have h3 := h.hj
  have g := rM (d := d) (i := j) (j := a) (by omega) (by omega)
  have gj : gN (swp d j a) j = gN d a := by
    rw [g]
    by_cases hh : j = a
    · rw [if_pos hh, hh]
    · rw [if_neg hh, if_pos rfl]
  refine ⟨Rel.swp (i := j) (j := a) (by omega) (by omega) (by omega) (by omega), fun k k1 k2 => ?_, fun k k1 k2 => ?_⟩
  · rw [gj, g]
    by_cases hk : k = a
    · rw [if_pos hk]
      have := h.lo j (by omega) (by omega); omega
    · rw [if_neg hk, if_neg (by omega)]
      have := h.lo k (by omega) (by omega); omega
  · rw [gj, g, if_neg (by omega), if_neg (by omega)]
    exact h.up k k1 k2

theorem OD {lo hi p : Nat} {d : List Int} (h0 : lo < hi) (hb : hi ≤ d.length) (hl : d.length < 2305843009213693951) (hp : lo ≤ p ∧ p < hi) :
    ∃ (m : Nat) (fl : Bool) (d' : List Int), gE d (lo : Int) (hi : Int) (p : Int) = some (((m : Int), fl), d') ∧ lo ≤ m ∧ m < hi ∧ Rel lo hi d d' ∧ (∀ k, lo ≤ k → k < m → gN d' k ≤ gN d' m) ∧ (∀ k, m < k → k < hi → gN d' m ≤ gN d' k) := by
  unfold gE
  rw [aQ (asN (by omega)), aQ (asN (by omega)), aQ (asN (by omega)), aQ (asN (by omega)), wrN (x := (lo : Int) + 1) (n := lo + 1) (by omega) (by omega), wrN (x := (hi : Int) - 1) (n := hi - 1) (by omega) (by omega)]
  simp only [Int.toNat_natCast]
  have r0 : Rel lo hi d (swp d lo p) := Rel.swp (i := lo) (j := p) (by omega) (by omega) (by omega) (by omega)
  have l0 : (swp d lo p).length = d.length := gQ ..
  have inv : xO lo hi (lo + 1) (hi - 1) (swp d lo p) := ⟨by omega, by omega, by omega, fun k k1 k2 => by omega, fun k k1 k2 => by omega⟩
  obtain ⟨i', j', p1, p2, p3, p4, p5, _, p6⟩ := HB inv (by rw [l0]; exact hb) (by rw [l0]; exact hl)
  have e0 : fH (List.set (List.set d lo (List.getD d p default)) p (List.getD d lo default)) (lo : Int) ((lo + 1 : Nat) : Int) ((hi - 1 : Nat) : Int) = eP (swp d lo p) (lo : Nat) (i' : Nat) (j' : Nat) := p6
  rw [e0]
  have q1 := p1.hi; have q2 := p1.hj; have q3 := p1.hij
  generalize hg : swp d lo p = d1 at *
  unfold eP
  by_cases hlt : j' < i'
  · have : decide ((j' : Int) < (i' : Int)) = true := by simp; omega
    rw [this, cond_true]
    simp only [Int.toNat_natCast]
    rw [aQ (asN (by omega)), aQ (asN (by omega)), aQ (asN (by omega)), aQ (asN (by omega))]
    have hp1 : xO lo hi (j' + 1) j' d1 := by rw [p4 hlt]; exact p1
    obtain ⟨r, a1, a2⟩ := NO hp1 (by omega)
    exact ⟨j', true, swp d1 j' lo, rfl, by omega, by omega, r0.trans r, a1, a2⟩
  · obtain ⟨k1, k2, k3⟩ := p5 (by omega)
    have : decide ((j' : Int) < (i' : Int)) = false := by simp; omega
    rw [this, cond_false]
    simp only [Int.toNat_natCast]
    rw [aQ (asN (by omega)), aQ (asN (by omega)), aQ (asN (by omega)), aQ (asN (by omega)), wrN (x := (i' : Int) + 1) (n := i' + 1) (by omega) (by omega), wrN (x := (j' : Int) - 1) (n := j' - 1) (by omega) (by omega)]
    obtain ⟨d2, j2, e, r, pp⟩ := aBe (a := lo) (b := hi) (j' - 1 + 1 - (i' + 1)) (i' + 1) (j' - 1) (swp d1 i' j') rfl (by rw [gQ]; omega) (by rw [gQ]; omega) (p1.swap (by omega) k1 k2 k3)
    have w1 := pp.hi; have w2 := pp.hj
    have l2 : d2.length = d1.length := by rw [r.len, gQ]
    unfold jU
    rw [show lp (fun s : List Int × Int × Int => dA (lo : Int) s.1 s.2.1 s.2.2) ((List.set (List.set d1 i' (List.getD d1 j' default)) j' (List.getD d1 i' default)), ((i' + 1 : Nat) : Int), ((j' - 1 : Nat) : Int)) = some (d2, (j2 : Int)) from e]
    simp only [Option.bind_some, iK, Int.toNat_natCast]
    rw [aQ (asN (by omega)), aQ (asN (by omega)), aQ (asN (by omega)), aQ (asN (by omega))]
    obtain ⟨rr, a1, a2⟩ := NO pp (by omega)
    exact ⟨j2, false, swp d2 j2 lo, rfl, by omega, by omega, ((r0.trans ((p1.rel (by omega) (by omega)).mono (by omega) (Nat.le_refl _))).trans (r.mono (by omega) (Nat.le_refl _))).trans rr, a1, a2⟩

end Go.Abs
namespace Go.Abs
open Go
structure DS (a b i j : Nat) (d : List Int) : Prop where
  hi : a < i
  hij : i ≤ j + 1
  hj : j < b
  lo : ∀ k, a < k → k < i → gN d k ≤ gN d a
  up : ∀ k, j < k → k < b → gN d a < gN d k

theorem DS.swap {a b i j : Nat} {d : List Int} (h : DS a b i j d) (hb : b ≤ d.length) (hij : i < j) (h1 : gN d a < gN d i) (h2 : gN d j ≤ gN d a) : DS a b (i + 1) (j - 1) (swp d i j) := by
  have := h.hi; have := h.hj
  have g := rM (d := d) (i := i) (j := j) (by omega) (by omega)
  have ga : gN (swp d i j) a = gN d a := by rw [g, if_neg (by omega), if_neg (by omega)]
  refine ⟨by omega, by omega, by omega, fun k k1 k2 => ?_, fun k k1 k2 => ?_⟩
  · rw [ga, g, if_neg (by omega)]
    by_cases hk : k = i
    · rw [if_pos hk]; exact h2
    · rw [if_neg hk]; exact h.lo k k1 (by omega)
  · rw [ga, g]
    by_cases hk : k = j
    · rw [if_pos hk]; exact h1
    · rw [if_neg hk, if_neg (by omega)]; exact h.up k (by omega) k2

theorem RP {a b i j : Nat} {d : List Int} (h : DS a b i j d) (hb : b ≤ d.length) (hl : d.length < 2305843009213693951) : ∃ i' j' : Nat, DS a b i' j' d ∧ i ≤ i' ∧ j' ≤ j ∧ (j' < i' → j' + 1 = i') ∧ (i' ≤ j' → i' < j' ∧ gN d a < gN d i' ∧ gN d j' ≤ gN d a) ∧
    cO (a : Nat) d (i : Nat) (j : Nat) = dN d (a : Nat) (i' : Nat) (j' : Nat) := by
  have h1 := h.hi; have h2 := h.hij; have h3 := h.hj
  obtain ⟨i', e1, a1, a2, a3, a4⟩ := JN (body := fun s => dP (a : Nat) (j : Nat) s.1 s.2) (d := d) (p := fun k => ¬ gN d a < gN d k) (j := j) (ZU (a := a) (j := j) (d := d) (by omega) (by omega) hl) (j + 1 - i) i rfl h2
  obtain ⟨j', f1, c1, c2, c3, c4⟩ := ED (body := fun s => dO (a : Nat) (i' : Nat) s.1 s.2) (d := d) (p := fun k => gN d a < gN d k) (i := i') (m := j) (by omega) (TK (a := a) (i := i') (m := j) (d := d) (by omega) (by omega) (by omega) hl) j (Nat.le_refl _) a2
  have hend : i' ≤ j' → i' < j' ∧ gN d a < gN d i' ∧ gN d j' ≤ gN d a := fun hh => by
    have k1 : gN d a < gN d i' := Classical.byContradiction fun hn => a4 (by omega) hn
    have k2 : ¬ gN d a < gN d j' := c4 hh
    refine ⟨?_, k1, by omega⟩
    rcases Nat.lt_or_ge i' j' with h | h
    · exact h
    · have : i' = j' := by omega
      rw [this] at k1; exact absurd k1 k2
  refine ⟨i', j', ⟨by omega, by omega, by omega, fun k k1 k2 => ?_, fun k k1 k2 => ?_⟩, a1, c2, fun hh => by omega, hend, ?_⟩
  · by_cases hk : k < i
    · exact h.lo k k1 hk
    · have := a3 k (by omega) k2; omega
  · by_cases hk : j < k
    · exact h.up k hk k2
    · exact c3 k k1 (by omega)
  · unfold cO iS
    rw [show lp (fun s : List Int × Int => dP (a : Nat) (j : Nat) s.1 s.2) (d, (i : Int)) = some (d, (i' : Int)) from e1]
    simp only [Option.bind_some]
    unfold fO iT
    rw [show lp (fun s : List Int × Int => dO (a : Nat) (i' : Nat) s.1 s.2) (d, (j : Int)) = some (d, (j' : Int)) from f1]
    rfl

theorem aAv {a b : Nat} : ∀ (n i j : Nat) (d : List Int), j + 1 - i = n → b ≤ d.length → d.length < 2305843009213693951 → DS a b i j d →
    ∃ (d' : List Int) (j' : Nat), lp (fun s : List Int × Int × Int => cO (a : Nat) s.1 s.2.1 s.2.2) (d, (i : Int), (j : Int)) = some (d', ((j' + 1 : Nat) : Int)) ∧ Rel (a + 1) b d d' ∧ DS a b (j' + 1) j' d' := by
  intro n
  induction n using Nat.strongRecOn with
  | ind n ih =>
    intro i j d h1 h2 h3 h
    obtain ⟨i', j', p1, p2, p3, p4, p5, p6⟩ := RP h h2 h3
    have q1 := p1.hi; have q2 := p1.hj; have q3 := p1.hij
    by_cases hlt : j' < i'
    · have hs : cO (a : Nat) d (i : Nat) (j : Nat) = some (.inr (d, (i' : Int))) := by
        rw [p6]
        unfold dN
        have : decide ((j' : Int) < (i' : Int)) = true := by simp; omega
        rw [this, cond_true]
      have := p4 hlt
      exact ⟨d, j', by rw [this]; exact cV hs, Rel.refl .., by rw [this]; exact p1⟩
    · obtain ⟨k1, k2, k3⟩ := p5 (by omega)
      have hs : cO (a : Nat) d (i : Nat) (j : Nat) = some (.inl (swp d i' j', ((i' + 1 : Nat) : Int), ((j' - 1 : Nat) : Int))) := by
        rw [p6]
        unfold dN
        have : decide ((j' : Int) < (i' : Int)) = false := by simp; omega
        rw [this, cond_false]
        simp only [Int.toNat_natCast]
        rw [aQ (asN (by omega)), aQ (asN (by omega)), aQ (asN (by omega)), aQ (asN (by omega)), wrN (x := (i' : Int) + 1) (n := i' + 1) (by omega) (by omega), wrN (x := (j' : Int) - 1) (n := j' - 1) (by omega) (by omega)]
        rfl
      obtain ⟨d', j2, e, r, p⟩ := ih (j' - 1 + 1 - (i' + 1)) (by omega) (i' + 1) (j' - 1) (swp d i' j') rfl (by rw [gQ]; exact h2) (by rw [gQ]; exact h3) (p1.swap h2 k1 k2 k3)
      exact ⟨d', j2, (gF hs).trans e, (Rel.swp (i := i') (j := j') (by omega) (by omega) (by omega) (by omega)).trans r, p⟩

theorem MN {lo hi p : Nat} {d : List Int} (h0 : lo < hi) (hb : hi ≤ d.length) (hl : d.length < 2305843009213693951) (hp : lo ≤ p ∧ p < hi) :
    ∃ (m : Nat) (d' : List Int), eU d (lo : Int) (hi : Int) (p : Int) = some ((m : Int), d') ∧ lo < m ∧ m ≤ hi ∧ Rel lo hi d d' ∧ (∀ k, lo ≤ k → k < m → gN d' k ≤ gN d p) ∧ (∀ k, m ≤ k → k < hi → gN d p < gN d' k) := by
  unfold eU
  rw [aQ (asN (by omega)), aQ (asN (by omega)), aQ (asN (by omega)), aQ (asN (by omega)), wrN (x := (lo : Int) + 1) (n := lo + 1) (by omega) (by omega), wrN (x := (hi : Int) - 1) (n := hi - 1) (by omega) (by omega)]
  simp only [Int.toNat_natCast]
  have r0 : Rel lo hi d (swp d lo p) := Rel.swp (i := lo) (j := p) (by omega) (by omega) (by omega) (by omega)
  have l0 : (swp d lo p).length = d.length := gQ ..
  have g := rM (d := d) (i := lo) (j := p) (by omega) (by omega)
  have g0 : gN (swp d lo p) lo = gN d p := by
    rw [g]
    by_cases hh : lo = p
    · rw [if_pos hh, hh]
    · rw [if_neg hh, if_pos rfl]
  have inv : DS lo hi (lo + 1) (hi - 1) (swp d lo p) := ⟨by omega, by omega, by omega, fun k k1 k2 => by omega, fun k k1 k2 => by omega⟩
  obtain ⟨d', j', e, r, pp⟩ := aAv (a := lo) (b := hi) (hi - 1 + 1 - (lo + 1)) (lo + 1) (hi - 1) (swp d lo p) rfl (by rw [l0]; exact hb) (by rw [l0]; exact hl) inv
  have w1 := pp.hi; have w2 := pp.hj
  have ga : gN d' lo = gN d p := by rw [r.out lo (by omega), g0]
  unfold iQ
  rw [show lp (fun s : List Int × Int × Int => cO (lo : Int) s.1 s.2.1 s.2.2) ((List.set (List.set d lo (List.getD d p default)) p (List.getD d lo default)), ((lo + 1 : Nat) : Int), ((hi - 1 : Nat) : Int)) = some (d', ((j' + 1 : Nat) : Int)) from e]
  refine ⟨j' + 1, d', rfl, by omega, by omega, r0.trans (r.mono (by omega) (Nat.le_refl _)), fun k k1 k2 => ?_, fun k k1 k2 => ?_⟩
  · rw [← ga]
    by_cases hk : k = lo
    · rw [hk]; exact Int.le_refl _
    · exact pp.lo k (by omega) k2
  · rw [← ga]; exact pp.up k (by omega) k2

theorem SV {lo i : Nat} {d : List Int} : ∀ (n i' : Nat), i' - i = n → oH lo i d → lo < i → (∀ k, i ≤ k → k < i' → gN d (k - 1) ≤ gN d k) → oH lo i' d
  | 0, i', h, hs, _, _ => fun p q p1 p2 p3 => hs p q p1 p2 (by omega)
  | n + 1, i', h, hs, hl, hk => by
    have ih := SV (d := d) n (i' - 1) (by omega) hs hl fun k k1 k2 => hk k k1 (by omega)
    intro p q p1 p2 p3
    by_cases hq : q = i' - 1
    · by_cases hp : p = q
      · rw [hp]; exact Int.le_refl _
      · have h1 := hk q (by omega) (by omega)
        have h2 := ih p (q - 1) p1 (by omega) (by omega)
        omega
    · exact ih p q p1 p2 (by omega)

theorem aAk {lo hi : Nat} {d : List Int} (x : Int) (hb : hi ≤ d.length) (hl : d.length < 2305843009213693951) : ∀ (n i : Nat), hi - i = n → 1 ≤ i → i ≤ hi →
    ∃ i' : Nat, lp (fun s : List Int × Int => cN (lo : Nat) (hi : Nat) x s.1 s.2) (d, (i : Int)) = some (d, (i' : Int)) ∧ i ≤ i' ∧ i' ≤ hi ∧ (∀ k, i ≤ k → k < i' → gN d (k - 1) ≤ gN d k) := by
  intro n
  induction n with
  | zero =>
    intro i h1 h2 h3
    refine ⟨i, cV ?_, Nat.le_refl _, h3, fun k k1 k2 => by omega⟩
    show cN _ _ _ _ _ = _
    have : decide ((i : Int) < (hi : Int)) = false := by simp; omega
    simp only [cN, this]
    rw [aQ (fun h => by cases h), aQ (fun h => by cases h)]
    rfl
  | succ n ih =>
    intro i h1 h2 h3
    have hd : decide ((i : Int) < (hi : Int)) = true := by simp; omega
    have hs : cN (lo : Nat) (hi : Nat) x d (i : Nat) = if gN d i < gN d (i - 1) then some (.inr (d, (i : Int))) else some (.inl (d, ((i + 1 : Nat) : Int))) := by
      unfold cN
      rw [hd, wrN (x := (i : Int) - 1) (n := i - 1) (by omega) (by omega), wrN (x := (i : Int) + 1) (n := i + 1) (by omega) (by omega), aQ fun _ => asN (by omega), aQ fun _ => asN (by omega)]
      simp only [dG, cond_true, qE, Option.bind_some, Bool.true_and, Int.toNat_natCast, gN]
      by_cases h : d.getD i default < d.getD (i - 1) default <;> simp [h]
    by_cases h : gN d i < gN d (i - 1)
    · rw [if_pos h] at hs
      exact ⟨i, cV hs, Nat.le_refl _, h3, fun k k1 k2 => by omega⟩
    · rw [if_neg h] at hs
      obtain ⟨i', e, a1, a2, a3⟩ := ih (i + 1) (by omega) (by omega) (by omega)
      refine ⟨i', (gF hs).trans e, by omega, a2, fun k k1 k2 => ?_⟩
      by_cases hk : k = i
      · rw [hk]; omega
      · exact a3 k (by omega) k2

theorem ET {lo hi : Nat} {d d' : List Int} (r : Rel lo hi d d') (h : lo = 0 ∨ ∀ k, lo ≤ k → k < hi → gN d (lo - 1) ≤ gN d k) : lo = 0 ∨ ∀ k, lo ≤ k → k < hi → gN d' (lo - 1) ≤ gN d' k := by
  by_cases h0 : lo = 0
  · exact .inl h0
  · rcases h with h | h
    · exact .inl h
    · exact .inr fun k k1 k2 => by
        rw [r.out (lo - 1) (by omega)]
        exact r.all (p := fun v => gN d (lo - 1) ≤ v) h k k1 k2

theorem ZP {lo hi i : Nat} (x y : Int) : ∀ (j : Nat) (d : List Int), lo ≤ j → j ≤ i → i < d.length → d.length < 2305843009213693951 → CY lo j i d → (lo = 0 ∨ ∀ k, lo ≤ k → k ≤ i → gN d (lo - 1) ≤ gN d k) →
    ∃ d', lp (fun s : List Int × Int => cE (lo : Nat) (hi : Nat) x y s.1 s.2) (d, (j : Int)) = some d' ∧ Rel lo (i + 1) d d' ∧ oH lo (i + 1) d' := by
  intro j
  induction j with
  | zero =>
    intro d h1 h2 h3 h4 h5 h6
    refine ⟨d, cV ?_, Rel.refl .., h5.done h1 (by omega)⟩
    show cE _ _ _ _ _ _ = _
    have : decide ((1 : Int) ≤ ((0 : Nat) : Int)) = false := by simp
    simp only [cE, this, cond_false]
  | succ j ih =>
    intro d h1 h2 h3 h4 h5 h6
    have hd : decide ((1 : Int) ≤ ((j + 1 : Nat) : Int)) = true := by simp; omega
    have hs : cE (lo : Nat) (hi : Nat) x y d ((j + 1 : Nat) : Int) = if gN d (j + 1) < gN d j then some (.inl (swp d (j + 1) j, (j : Int))) else some (.inr d) := by
      unfold cE
      rw [hd, cond_true, wrN (x := ((j + 1 : Nat) : Int) - 1) (n := j) (by omega) (by omega), aQ (asN (by omega)), aQ (asN (by omega))]
      simp only [qE, Option.bind_some, Int.toNat_natCast, gN]
      by_cases h : d.getD (j + 1) default < d.getD j default
      · simp only [h, decide_true, Bool.not_true, cond_false, if_true]
        rw [aQ (asN (by omega)), aQ (asN (by omega)), aQ (asN (by omega)), aQ (asN (by omega))]
        rfl
      · simp only [h, decide_false, Bool.not_false, cond_true, if_false]
    by_cases h : gN d (j + 1) < gN d j
    · rw [if_pos h] at hs
      have hlo : lo < j + 1 := by
        rcases h6 with h6 | h6
        · omega
        · rcases Nat.lt_or_ge lo (j + 1) with hh | hh
          · exact hh
          · have : lo = j + 1 := by omega
            have h7 := h6 (j + 1) (by omega) h2
            rw [this] at h7
            simp only [Nat.add_sub_cancel] at h7
            omega
      have r1 : Rel lo (i + 1) d (swp d (j + 1) j) := Rel.swp (i := j + 1) (j := j) (by omega) (by omega) (by omega) (by omega)
      obtain ⟨d', e, r, s⟩ := ih (swp d (j + 1) j) (by omega) (by omega) (by rw [gQ]; exact h3) (by rw [gQ]; exact h4) (h5.next hlo h2 h3 h) ((ET r1 (h6.imp id fun h k a b => h k a (by omega))).imp id fun h k a b => h k a (by omega))
      exact ⟨d', (gF hs).trans e, r1.trans r, s⟩
    · rw [if_neg h] at hs
      exact ⟨d, cV hs, Rel.refl .., h5.done h1 fun hh => h hh.2⟩

theorem aCb {lo hi i : Nat} (x y : Int) : ∀ (n j : Nat) (d : List Int), hi - j = n → i < j → hi ≤ d.length → d.length < 2305843009213693951 →
    ∃ d', lp (fun s : List Int × Int => cM (lo : Nat) (hi : Nat) x y s.1 s.2) (d, (j : Int)) = some d' ∧ Rel i hi d d' := by
  intro n
  induction n with
  | zero =>
    intro j d h1 h2 h3 h4
    refine ⟨d, cV ?_, Rel.refl ..⟩
    show cM _ _ _ _ _ _ = _
    have : decide ((j : Int) < (hi : Int)) = false := by simp; omega
    simp only [cM, this, cond_false]
  | succ n ih =>
    intro j d h1 h2 h3 h4
    have hd : decide ((j : Int) < (hi : Int)) = true := by simp; omega
    have hs : cM (lo : Nat) (hi : Nat) x y d (j : Nat) = if gN d j < gN d (j - 1) then some (.inl (swp d j (j - 1), ((j + 1 : Nat) : Int))) else some (.inr d) := by
      unfold cM
      rw [hd, cond_true, wrN (x := (j : Int) - 1) (n := j - 1) (by omega) (by omega), wrN (x := (j : Int) + 1) (n := j + 1) (by omega) (by omega), aQ (asN (by omega)), aQ (asN (by omega))]
      simp only [qE, Option.bind_some, Int.toNat_natCast, gN]
      by_cases h : d.getD j default < d.getD (j - 1) default
      · simp only [h, decide_true, Bool.not_true, cond_false, if_true]
        rw [aQ (asN (by omega)), aQ (asN (by omega)), aQ (asN (by omega)), aQ (asN (by omega))]
        rfl
      · simp only [h, decide_false, Bool.not_false, cond_true, if_false]
    by_cases h : gN d j < gN d (j - 1)
    · rw [if_pos h] at hs
      obtain ⟨d', e, r⟩ := ih (j + 1) (swp d j (j - 1)) (by omega) (by omega) (by rw [gQ]; exact h3) (by rw [gQ]; exact h4)
      exact ⟨d', (gF hs).trans e, (Rel.swp (i := j) (j := j - 1) (by omega) (by omega) (by omega) (by omega)).trans r⟩
    · rw [if_neg h] at hs
      exact ⟨d, cV hs, Rel.refl ..⟩

theorem WH {lo hi i : Nat} (x : Int) {d : List Int} (h1 : lo < i) (h2 : i < hi) (h3 : hi ≤ d.length) (h4 : d.length < 2305843009213693951) :
    ∃ d', cF d (lo : Nat) (hi : Nat) (i : Nat) x = some (.inl (d', (i : Int), IntKind.i64.wrap (x + 1))) ∧ Rel i hi d d' := by
  unfold cF
  rw [wrN (x := (hi : Int) - (i : Int)) (n := hi - i) (by omega) (by omega)]
  by_cases h : (2 : Int) ≤ ((hi - i : Nat) : Int)
  · simp only [h, decide_true, cond_true]
    unfold fU
    rw [wrN (x := (i : Int) + 1) (n := i + 1) (by omega) (by omega)]
    obtain ⟨d', e, r⟩ := aCb (lo := lo) (hi := hi) (i := i) (i : Int) x (hi - (i + 1)) (i + 1) d rfl (by omega) h3 h4
    rw [e]
    exact ⟨d', rfl, r⟩
  · simp only [h, decide_false, cond_false]
    exact ⟨d, rfl, Rel.refl ..⟩

theorem ZK {lo hi i : Nat} (x : Int) {d : List Int} (h1 : lo < i) (h2 : i ≤ hi) (h3 : hi ≤ d.length) (h4 : d.length < 2305843009213693951) (hs : oH lo i d) (hb : lo = 0 ∨ ∀ k, lo ≤ k → k < hi → gN d (lo - 1) ≤ gN d k) :
    (∃ (fl : Bool) (d' : List Int), cU d (lo : Nat) (hi : Nat) (i : Nat) x = some (.inr (.inr (fl, d'))) ∧ Rel lo hi d d' ∧ (fl = true → oH lo hi d')) ∨
    (∃ (d' : List Int) (i' : Nat), cU d (lo : Nat) (hi : Nat) (i : Nat) x = some (.inl (d', (i' : Int), IntKind.i64.wrap (x + 1))) ∧ Rel lo hi d d' ∧ lo < i' ∧ i' ≤ hi ∧ oH lo i' d') := by
  unfold cU
  obtain ⟨i', e, a1, a2, a3⟩ := aAk (lo := lo) (hi := hi) x h3 h4 (hi - i) i rfl (by omega) h2
  rw [e]
  simp only [Option.bind_some]
  have hs' := SV (i' - i) i' rfl hs h1 a3
  unfold eF
  by_cases hi' : i' = hi
  · have : decide ((i' : Int) = (hi : Int)) = true := by simp; omega
    rw [this, cond_true]
    left
    exact ⟨true, d, rfl, Rel.refl .., fun _ => hi' ▸ hs'⟩
  · have hne : decide ((i' : Int) = (hi : Int)) = false := by simp; omega
    rw [hne, cond_false, wrN (x := (hi : Int) - (lo : Int)) (n := hi - lo) (by omega) (by omega)]
    by_cases h50 : ((hi - lo : Nat) : Int) < 50
    · simp only [h50, decide_true, cond_true]
      left
      exact ⟨false, d, rfl, Rel.refl .., fun h => by cases h⟩
    · simp only [h50, decide_false, cond_false]
      rw [wrN (x := (i' : Int) - 1) (n := i' - 1) (by omega) (by omega), wrN (x := (i' : Int) - (lo : Int)) (n := i' - lo) (by omega) (by omega)]
      simp only [Int.toNat_natCast]
      rw [aQ (asN (by omega)), aQ (asN (by omega)), aQ (asN (by omega)), aQ (asN (by omega))]
      have r1 : Rel lo hi d (swp d i' (i' - 1)) := Rel.swp (i := i') (j := i' - 1) (by omega) (by omega) (by omega) (by omega)
      have l1 : (swp d i' (i' - 1)).length = d.length := gQ ..
      have g := rM (d := d) (i := i') (j := i' - 1) (by omega) (by omega)
      right
      by_cases hge : (2 : Int) ≤ ((i' - lo : Nat) : Int)
      · simp only [hge, decide_true, cond_true]
        unfold fT
        have ins : CY lo (i' - 1) (i' - 1) (swp d i' (i' - 1)) := ⟨fun p q p1 p2 p3 p4 p5 => by
          rw [g, g, if_neg p4, if_neg p5, if_neg (by omega), if_neg (by omega)]
          exact hs' p q p1 p2 (by omega), fun q q1 q2 => by omega⟩
        obtain ⟨d2, e2, r2, s2⟩ := ZP (lo := lo) (hi := hi) (i := i' - 1) (i' : Int) x (i' - 1) (swp d i' (i' - 1)) (by omega) (Nat.le_refl _) (by rw [l1]; omega) (by rw [l1]; exact h4) ins ((ET r1 hb).imp id fun h k a b => h k a (by omega))
        have e2' : lp (fun s : List Int × Int => cE (lo : Int) (hi : Int) (i' : Int) x s.1 s.2) ((List.set (List.set d i' (List.getD d (i' - 1) default)) (i' - 1) (List.getD d i' default)), ((i' - 1 : Nat) : Int)) = some d2 := e2
        rw [e2']
        simp only [Option.bind_some]
        rw [show i' - 1 + 1 = i' by omega] at r2 s2
        have l2 : d2.length = d.length := by rw [r2.len, l1]
        obtain ⟨d3, e3, r3⟩ := WH (lo := lo) (hi := hi) (i := i') x (d := d2) (by omega) (by omega) (by omega) (by omega)
        rw [e3]
        refine ⟨d3, i', rfl, (r1.trans (r2.mono (Nat.le_refl _) (by omega))).trans (r3.mono (by omega) (Nat.le_refl _)), by omega, a2, fun p q p1 p2 p3 => ?_⟩
        rw [r3.out p (by omega), r3.out q (by omega)]
        exact s2 p q p1 p2 p3
      · simp only [hge, decide_false, cond_false]
        obtain ⟨d3, e3, r3⟩ := WH (lo := lo) (hi := hi) (i := i') x (d := swp d i' (i' - 1)) (by omega) (by omega) (by omega) (by omega)
        have e3' : cF (List.set (List.set d i' (List.getD d (i' - 1) default)) (i' - 1) (List.getD d i' default)) (lo : Int) (hi : Int) (i' : Int) x = _ := e3
        rw [e3']
        refine ⟨d3, i', rfl, r1.trans (r3.mono (by omega) (Nat.le_refl _)), by omega, a2, ?_⟩
        have : i' = lo + 1 := by omega
        rw [this]; exact FW lo d3

theorem aBP {lo hi : Nat} : ∀ (n x i : Nat) (d : List Int), 5 - x = n → lo < i → i ≤ hi → hi ≤ d.length → d.length < 2305843009213693951 → oH lo i d → (lo = 0 ∨ ∀ k, lo ≤ k → k < hi → gN d (lo - 1) ≤ gN d k) → x ≤ 5 →
    ∃ (fl : Bool) (d' : List Int), (lp (fun s : List Int × Int × Int => bT (lo : Nat) (hi : Nat) s.1 s.2.1 s.2.2) (d, (i : Int), (x : Int))).bind (Sum.elim (fun rr => eG rr) (fun rr => some (rr.1, rr.2))) = some (fl, d') ∧ Rel lo hi d d' ∧ (fl = true → oH lo hi d') := by
  intro n
  induction n with
  | zero =>
    intro x i d h1 h2 h3 h4 h5 h6 h7 h8
    have hs : bT (lo : Nat) (hi : Nat) d (i : Nat) (x : Nat) = some (.inr (.inl d)) := by
      have : decide ((x : Int) < 5) = false := by simp; omega
      simp only [bT, this, cond_false]
    rw [cV (show (fun s : List Int × Int × Int => bT (lo : Nat) (hi : Nat) s.1 s.2.1 s.2.2) (d, (i : Int), (x : Int)) = _ from hs)]
    exact ⟨false, d, rfl, Rel.refl .., fun h => by cases h⟩
  | succ n ih =>
    intro x i d h1 h2 h3 h4 h5 h6 h7 h8
    have hl2 : bT (lo : Nat) (hi : Nat) d (i : Nat) (x : Nat) = cU d (lo : Nat) (hi : Nat) (i : Nat) (x : Nat) := by
      have : decide ((x : Int) < 5) = true := by simp; omega
      simp only [bT, this, cond_true]
    rcases ZK (lo := lo) (hi := hi) (x : Int) h2 h3 h4 h5 h6 h7 with ⟨fl, d', e, r, s⟩ | ⟨d', i', e, r, k1, k2, s⟩
    · rw [cV (show (fun s : List Int × Int × Int => bT (lo : Nat) (hi : Nat) s.1 s.2.1 s.2.2) (d, (i : Int), (x : Int)) = _ from hl2.trans e)]
      exact ⟨fl, d', rfl, r, s⟩
    · rw [wrN (x := (x : Int) + 1) (n := x + 1) (by omega) (by omega)] at e
      obtain ⟨fl, d2, e2, r2, s2⟩ := ih (x + 1) i' d' (by omega) k1 k2 (by rw [r.len]; exact h4) (by rw [r.len]; exact h5) s (ET r h7) (by omega)
      rw [gF (show (fun s : List Int × Int × Int => bT (lo : Nat) (hi : Nat) s.1 s.2.1 s.2.2) (d, (i : Int), (x : Int)) = _ from hl2.trans e)]
      exact ⟨fl, d2, e2, r.trans r2, s2⟩

theorem aAf {lo hi : Nat} {d : List Int} (h0 : lo < hi) (h1 : hi ≤ d.length) (h2 : d.length < 2305843009213693951) (hb : lo = 0 ∨ ∀ k, lo ≤ k → k < hi → gN d (lo - 1) ≤ gN d k) :
    ∃ (fl : Bool) (d' : List Int), eR d (lo : Int) (hi : Int) = some (fl, d') ∧ Rel lo hi d d' ∧ (fl = true → oH lo hi d') := by
  unfold eR fW
  rw [wrN (x := (lo : Int) + 1) (n := lo + 1) (by omega) (by omega)]
  exact aBP (lo := lo) (hi := hi) (5 - 0) 0 (lo + 1) d rfl (by omega) (by omega) h1 h2 (FW lo d) hb (by omega)

end Go.Abs
namespace Go.Abs
open Go
abbrev PS := List Int × Int × Int × Int × Bool × Bool

abbrev PR := List Int → Int → Int → Int → Option (List Int)

def xB (a b : Nat) (d d' : List Int) : Prop := Rel a b d d' ∧ oH a b d'

structure wS (a b lim : Nat) (d : List Int) : Prop where
  ab : a ≤ b
  bl : b ≤ d.length
  len : d.length < 2305843009213693951
  bnd : a = 0 ∨ ∀ k, a ≤ k → k < b → gN d (a - 1) ≤ gN d k
  lim : lim ≤ 100

def EU (rec : PR) (N : Nat) : Prop := ∀ (d : List Int) (a b lim : Nat), wS a b lim d → (rec d (a : Int) (b : Int) (lim : Int) = none ∧ N ≤ b - a) ∨ ∃ d', rec d (a : Int) (b : Int) (lim : Int) = some d' ∧ xB a b d d'

def BP (N a b : Nat) (d : List Int) (F : Option (PS ⊕ List Int)) : Prop :=
  (F = none ∧ N + 1 ≤ b - a) ∨ (∃ d', F = some (.inr d') ∧ xB a b d d') ∨
  ∃ (d' : List Int) (a' b' lim' : Nat) (wb wp : Bool), F = some (.inl (d', (a' : Int), (b' : Int), (lim' : Int), wb, wp)) ∧ b' - a' < b - a ∧ wS a' b' lim' d' ∧ ∀ d'', xB a' b' d' d'' → xB a b d d''

theorem xB.pre {a b : Nat} {d d1 d' : List Int} (r : Rel a b d d1) (h : xB a b d1 d') : xB a b d d' := ⟨r.trans h.1, h.2⟩

theorem BP.pre {N a b : Nat} {d d1 : List Int} {F : Option (PS ⊕ List Int)} (r : Rel a b d d1) (h : BP N a b d1 F) : BP N a b d F := by
  rcases h with h | ⟨d', h1, h2⟩ | ⟨d', a', b', lim', wb, wp, h1, h2, h3, h4⟩
  · exact .inl h
  · exact .inr (.inl ⟨d', h1, h2.pre r⟩)
  · exact .inr (.inr ⟨d', a', b', lim', wb, wp, h1, h2, h3, fun d'' hg => (h4 d'' hg).pre r⟩)

theorem wS.rel {a b lim : Nat} {d d1 : List Int} (h : wS a b lim d) (r : Rel a b d d1) : wS a b lim d1 :=
  ⟨h.ab, by rw [r.len]; exact h.bl, by rw [r.len]; exact h.len, ET r h.bnd, h.lim⟩

theorem PL {a m b : Nat} {d : List Int} (hm : m < b) (h1 : ∀ k, a ≤ k → k < m → gN d k ≤ gN d m) (h2 : ∀ k, m < k → k < b → gN d m ≤ gN d k) (s1 : oH a m d) (s2 : oH (m + 1) b d) : oH a b d := by
  intro p q p1 p2 p3
  by_cases hq : q < m
  · exact s1 p q p1 p2 hq
  · by_cases hp : m < p
    · exact s2 p q hp p2 p3
    · have g1 : gN d p ≤ gN d m := by
        by_cases e : p = m
        · rw [e]; exact Int.le_refl _
        · exact h1 p p1 (by omega)
      have g2 : gN d m ≤ gN d q := by
        by_cases e : q = m
        · rw [e]; exact Int.le_refl _
        · exact h2 q (by omega) p3
      omega

theorem XV {rec : PR} {N a b lim p : Nat} {d : List Int} (hrec : EU rec N) (hv : wS a b lim d) (h12 : 12 < b - a) (hp : a ≤ p ∧ p < b) (wb wp : Bool) (len : Int) :
    BP N a b d (gO rec d (a : Int) (b : Int) (lim : Int) wb wp len (p : Int)) := by
  have hb := hv.bl; have hl := hv.len
  -- with all equal ones on the left
  have eqc : 0 < a → ¬ gN d (a - 1) < gN d p → BP N a b d ((eU d (a : Int) (b : Int) (p : Int)).bind fun x20 => some (.inl (x20.2, x20.1, (b : Int), (lim : Int), wb, wp))) := by
    intro ha hn
    obtain ⟨m, d', e, m1, m2, r, q1, q2⟩ := MN (lo := a) (hi := b) (p := p) (d := d) (by omega) hb hl hp
    have hall : ∀ k, a ≤ k → k < b → gN d p ≤ gN d' k := by
      refine r.all (p := fun v => gN d p ≤ v) fun k k1 k2 => ?_
      rcases hv.bnd with h | h
      · omega
      · have := h k k1 k2; omega
    rw [e]
    refine .inr (.inr ⟨d', m, b, lim, wb, wp, rfl, by omega, ⟨m2, by rw [r.len]; exact hb, by rw [r.len]; exact hl, .inr fun k k1 k2 => ?_, hv.lim⟩, fun d'' hg => ⟨r.trans (hg.1.mono (by omega) (Nat.le_refl _)), fun x y x1 x2 x3 => ?_⟩⟩)
    · have := q1 (m - 1) (by omega) (by omega); have := q2 k k1 k2; omega
    · by_cases hx : m ≤ x
      · exact hg.2 x y hx x2 x3
      · rw [hg.1.out x (by omega)]
        have g1 := q1 x x1 (by omega)
        by_cases hy : y < m
        · rw [hg.1.out y (by omega)]
          have g2 := hall y (by omega) (by omega); omega
        · have g2 := hg.1.all (p := fun v => gN d p < v) q2 y (by omega) x3
          omega
  -- a partition, and the lesser part first
  have ptc : BP N a b d ((gE d (a : Int) (b : Int) (p : Int)).bind fun x23 =>
      bG ((8 : Int) ≠ 0) <|
      cond (decide ((IntKind.i64.wrap (x23.1.1 - (a : Int))) < (IntKind.i64.wrap ((b : Int) - x23.1.1))))
      ((rec x23.2 (a : Int) x23.1.1 (lim : Int)).bind fun x28 =>
      some (.inl (x28, IntKind.i64.wrap (x23.1.1 + (1 : Int)), (b : Int), (lim : Int), decide ((IntKind.i64.wrap (Int.tdiv len (8 : Int))) ≤ (IntKind.i64.wrap (x23.1.1 - (a : Int)))), x23.1.2)))
      ((rec x23.2 (IntKind.i64.wrap (x23.1.1 + (1 : Int))) (b : Int) (lim : Int)).bind fun x31 =>
      some (.inl (x31, (a : Int), x23.1.1, (lim : Int), decide ((IntKind.i64.wrap (Int.tdiv len (8 : Int))) ≤ (IntKind.i64.wrap ((b : Int) - x23.1.1))), x23.1.2)))) := by
    obtain ⟨m, fl, d1, e, m1, m2, r, q1, q2⟩ := OD (lo := a) (hi := b) (p := p) (d := d) (by omega) hb hl hp
    have hv1 := hv.rel r
    rw [e]
    simp only [Option.bind_some]
    rw [aQ (by decide), wrN (x := (m : Int) + 1) (n := m + 1) (by omega) (by omega)]
    have vL : wS a m lim d1 := ⟨m1, by have := hv1.bl; omega, hv1.len, hv1.bnd.imp id fun h k k1 k2 => h k k1 (by omega), hv.lim⟩
    have vR : wS (m + 1) b lim d1 := ⟨by omega, hv1.bl, hv1.len, .inr fun k k1 k2 => by simpa using q2 k (by omega) k2, hv.lim⟩
    cases decide ((IntKind.i64.wrap ((m : Int) - (a : Int))) < (IntKind.i64.wrap ((b : Int) - (m : Int)))) with
    | true =>
      rw [cond_true]
      rcases hrec d1 a m lim vL with ⟨hn, hN⟩ | ⟨d2, e2, g2⟩
      · rw [hn]; exact .inl ⟨rfl, by omega⟩
      · rw [e2]
        simp only [Option.bind_some]
        have top : gN d2 m = gN d1 m := g2.1.out m (by omega)
        refine .inr (.inr ⟨d2, m + 1, b, lim, _, _, rfl, by omega, ⟨by omega, by rw [g2.1.len]; exact hv1.bl, by rw [g2.1.len]; exact hv1.len, .inr fun k k1 k2 => ?_, hv.lim⟩, fun d3 hg => ⟨(r.trans (g2.1.mono (Nat.le_refl _) (by omega))).trans (hg.1.mono (by omega) (Nat.le_refl _)), ?_⟩⟩)
        · rw [show m + 1 - 1 = m by omega, top, g2.1.out k (by omega)]; exact q2 k (by omega) k2
        · have o3 : ∀ k, k ≤ m → gN d3 k = gN d2 k := fun k hk => hg.1.out k (by omega)
          refine PL m2 (fun k k1 k2 => ?_) (fun k k1 k2 => ?_) (fun x y x1 x2 x3 => by rw [o3 x (by omega), o3 y (by omega)]; exact g2.2 x y x1 x2 x3) hg.2
          · rw [o3 k (by omega), o3 m (by omega), top]
            exact g2.1.all (p := fun v => v ≤ gN d1 m) q1 k k1 k2
          · rw [o3 m (by omega), top]
            exact hg.1.all (p := fun v => gN d1 m ≤ v) (fun k k1 k2 => by rw [g2.1.out k (by omega)]; exact q2 k (by omega) k2) k (by omega) k2
    | false =>
      rw [cond_false]
      rcases hrec d1 (m + 1) b lim vR with ⟨hn, hN⟩ | ⟨d2, e2, g2⟩
      · rw [hn]; exact .inl ⟨rfl, by omega⟩
      · rw [e2]
        simp only [Option.bind_some]
        have low : ∀ k, k ≤ m → gN d2 k = gN d1 k := fun k hk => g2.1.out k (by omega)
        refine .inr (.inr ⟨d2, a, m, lim, _, _, rfl, by omega, ⟨m1, by rw [g2.1.len]; have := hv1.bl; omega, by rw [g2.1.len]; exact hv1.len, ?_, hv.lim⟩, fun d3 hg => ⟨(r.trans (g2.1.mono (by omega) (Nat.le_refl _))).trans (hg.1.mono (Nat.le_refl _) (by omega)), ?_⟩⟩)
        · rcases hv1.bnd with h | h
          · exact .inl h
          · exact .inr fun k k1 k2 => by rw [low (a - 1) (by omega), low k (by omega)]; exact h k k1 (by omega)
        · have o3 : ∀ k, m ≤ k → gN d3 k = gN d2 k := fun k hk => hg.1.out k (by omega)
          refine PL m2 (fun k k1 k2 => ?_) (fun k k1 k2 => ?_) hg.2 (fun x y x1 x2 x3 => by rw [o3 x (by omega), o3 y (by omega)]; exact g2.2 x y x1 x2 x3)
          · rw [o3 m (Nat.le_refl _), low m (Nat.le_refl _)]
            exact hg.1.all (p := fun v => v ≤ gN d1 m) (fun k k1 k2 => by rw [low k (by omega)]; exact q1 k k1 k2) k k1 k2
          · rw [o3 m (Nat.le_refl _), low m (Nat.le_refl _), o3 k (by omega)]
            exact g2.1.all (p := fun v => gN d1 m ≤ v) (fun k k1 k2 => q2 k (by omega) k2) k (by omega) k2
  unfold gO
  by_cases ha : 0 < a
  · have hd : decide ((0 : Int) < (a : Int)) = true := by simp; omega
    rw [hd, wrN (x := (a : Int) - 1) (n := a - 1) (by omega) (by omega), aQ fun _ => asN (by omega), aQ fun _ => asN (by omega)]
    simp only [dG, cond_true, qE, Option.bind_some, Bool.true_and, Int.toNat_natCast]
    by_cases hlt : gN d (a - 1) < gN d p
    · simp only [gN] at hlt
      simp only [hlt, decide_true, Bool.not_true, cond_false]
      exact ptc
    · have := eqc ha hlt
      simp only [gN] at hlt
      simp only [hlt, decide_false, Bool.not_false, cond_true]
      exact this
  · have hd : decide ((0 : Int) < (a : Int)) = false := by simp; omega
    rw [hd, aQ (fun h => by cases h), aQ (fun h => by cases h)]
    simp only [dG, cond_false, Option.bind_some, Bool.false_and]
    exact ptc

theorem XO {rec : PR} {N a b lim p : Nat} {d : List Int} (hrec : EU rec N) (hv : wS a b lim d) (h12 : 12 < b - a) (hp : a ≤ p ∧ p < b) (wb wp : Bool) (len hint : Int) :
    BP N a b d (gP rec d (a : Int) (b : Int) (lim : Int) wb wp len (p : Int) hint) := by
  unfold gP
  cases ((wb && wp) && (decide (hint = (1 : Int)))) with
  | false => exact XV hrec hv h12 hp wb wp len
  | true =>
    rw [cond_true]
    obtain ⟨fl, d', e, r, s⟩ := aAf (lo := a) (hi := b) (d := d) (by omega) hv.bl hv.len hv.bnd
    rw [e]
    simp only [Option.bind_some]
    cases fl with
    | true => exact .inr (.inl ⟨d', rfl, r, s rfl⟩)
    | false => exact (XV hrec (hv.rel r) h12 hp wb wp len).pre r

theorem YN {rec : PR} {N a b lim : Nat} {d : List Int} (hrec : EU rec N) (hv : wS a b lim d) (h12 : 12 < b - a) (wb wp : Bool) (len : Int) :
    BP N a b d (gS rec d (a : Int) (b : Int) (lim : Int) wb wp len) := by
  have hb := hv.bl; have hl := hv.len
  unfold gS
  obtain ⟨p, h, e, p1, p2⟩ := TS (lo := a) (hi := b) (d := d) h12 hb hl
  rw [e]
  simp only [Option.bind_some]
  by_cases h2 : h = 2
  · simp only [h2, decide_true, cond_true]
    obtain ⟨d', e2, r⟩ := WO (lo := a) (hi := b) (d := d) (by omega) hb (by omega)
    rw [e2]
    simp only [Option.bind_some]
    rw [wrN (x := (b : Int) - 1) (n := b - 1) (by omega) (by omega), wrN (x := (p : Int) - (a : Int)) (n := p - a) (by omega) (by omega), wrN (x := ((b - 1 : Nat) : Int) - ((p - a : Nat) : Int)) (n := b - 1 - (p - a)) (by omega) (by omega)]
    exact (XO hrec (hv.rel r) h12 ⟨by omega, by omega⟩ wb wp len 1).pre r
  · simp only [h2, decide_false, cond_false]
    exact XO hrec hv h12 ⟨p1, p2⟩ wb wp len h

theorem aBM {rec : PR} {N a b lim : Nat} {d : List Int} (hrec : EU rec N) (hv : wS a b lim d) (wb wp : Bool) :
    BP N a b d (eB rec d (a : Int) (b : Int) (lim : Int) wb wp) := by
  have hb := hv.bl; have hl := hv.len; have hab := hv.ab
  unfold eB
  rw [wrN (x := (b : Int) - (a : Int)) (n := b - a) (by omega) (by omega)]
  by_cases h12 : ((b - a : Nat) : Int) ≤ 12
  · simp only [h12, decide_true, cond_true]
    obtain ⟨d', e, r, s⟩ := aAm (lo := a) (hi := b) (d := d) hb (by omega) hab
    rw [e]
    exact .inr (.inl ⟨d', rfl, r, s⟩)
  · simp only [h12, decide_false, cond_false]
    by_cases h0 : lim = 0
    · have : decide ((lim : Int) = 0) = true := by simp; exact h0
      rw [this, cond_true]
      obtain ⟨d', e, r, s⟩ := XL (lo := a) (hi := b) (d := d) (by omega) hb hl
      rw [e]
      exact .inr (.inl ⟨d', rfl, r, s⟩)
    · have : decide ((lim : Int) = 0) = false := by simp; exact h0
      rw [this, cond_false]
      cases wb with
      | true => exact YN hrec hv (by omega) true wp _
      | false =>
        simp only [Bool.not_false, cond_true]
        obtain ⟨d', e, r⟩ := WM (lo := a) (hi := b) (d := d) (by omega) hb hl
        rw [e]
        simp only [Option.bind_some]
        have hlim := hv.lim
        rw [wrN (x := (lim : Int) - 1) (n := lim - 1) (by omega) (by omega)]
        have hv' := hv.rel r
        exact (YN hrec ⟨hv'.ab, hv'.bl, hv'.len, hv'.bnd, by omega⟩ (by omega) false wp _).pre r

theorem aBq {S R : Type} {body : S → Option (S ⊕ R)} {s : S} (h : body s = none) : lp body s = none := by
  cases e : lp body s with
  | none => rfl
  | some r =>
    obtain ⟨k, hk⟩ := ER.1 e
    cases k with
    | zero => simp [iter] at hk
    | succ k => simp [iter, h] at hk

theorem aCj {rec : PR} {N : Nat} (hrec : EU rec N) : ∀ (n a b lim : Nat) (d : List Int) (wb wp : Bool), b - a = n → wS a b lim d →
    (lp (fun s : PS => eB rec s.1 s.2.1 s.2.2.1 s.2.2.2.1 s.2.2.2.2.1 s.2.2.2.2.2) (d, (a : Int), (b : Int), (lim : Int), wb, wp) = none ∧ N + 1 ≤ b - a) ∨
    ∃ d', lp (fun s : PS => eB rec s.1 s.2.1 s.2.2.1 s.2.2.2.1 s.2.2.2.2.1 s.2.2.2.2.2) (d, (a : Int), (b : Int), (lim : Int), wb, wp) = some d' ∧ xB a b d d' := by
  intro n
  induction n using Nat.strongRecOn with
  | ind n ih =>
    intro a b lim d wb wp hn hv
    rcases aBM hrec hv wb wp with ⟨h1, h2⟩ | ⟨d', h1, h2⟩ | ⟨d', a', b', lim', wb', wp', h1, h2, h3, h4⟩
    · exact .inl ⟨aBq h1, h2⟩
    · exact .inr ⟨d', cV h1, h2⟩
    · rw [gF (show (fun s : PS => eB rec s.1 s.2.1 s.2.2.1 s.2.2.2.1 s.2.2.2.2.1 s.2.2.2.2.2) (d, (a : Int), (b : Int), (lim : Int), wb, wp) = _ from h1)]
      rcases ih (b' - a') (by omega) a' b' lim' d' wb' wp' rfl h3 with ⟨g1, g2⟩ | ⟨d2, g1, g2⟩
      · exact .inl ⟨g1, by omega⟩
      · exact .inr ⟨d2, g1, h4 d2 g2⟩

theorem NF : ∀ k : Nat, EU (cX k) k
  | 0 => fun _ _ _ _ _ => .inl ⟨rfl, Nat.zero_le _⟩
  | k + 1 => fun d a b lim hv => by
    show (fK (cX k) d a b lim = none ∧ _) ∨ ∃ d', fK (cX k) d a b lim = some d' ∧ _
    unfold fK kO
    rcases aCj (NF k) (b - a) a b lim d true true rfl hv with ⟨h1, h2⟩ | ⟨d', h1, h2⟩
    · rw [h1]; exact .inl ⟨rfl, h2⟩
    · rw [h1]; exact .inr ⟨d', rfl, h2⟩

theorem aBX {a b lim : Nat} {d : List Int} (hv : wS a b lim d) : ∃ d', jH d (a : Int) (b : Int) (lim : Int) = some d' ∧ xB a b d d' := by
  unfold jH
  obtain ⟨d', e, g⟩ : ∃ d', cX (b - a + 1) d (a : Int) (b : Int) (lim : Int) = some d' ∧ xB a b d d' := by
    rcases NF (b - a + 1) d a b lim hv with ⟨_, h⟩ | h
    · omega
    · exact h
  cases hf : ON (fun k => cX k d (a : Int) (b : Int) (lim : Int)) with
  | none =>
    exfalso
    unfold ON at hf
    have hex : ∃ k r, cX k d (a : Int) (b : Int) (lim : Int) = some r := ⟨_, d', e⟩
    rw [dif_pos hex] at hf
    obtain ⟨r, hr⟩ := Classical.choose_spec hex
    have hf' : cX (Classical.choose hex) d (a : Int) (b : Int) (lim : Int) = none := hf
    rw [hr] at hf'
    cases hf'
  | some r =>
    obtain ⟨k, hk⟩ := KU hf
    rcases NF k d a b lim hv with ⟨h, _⟩ | ⟨d2, h, g2⟩
    · rw [h] at hk; cases hk
    · rw [h] at hk; cases hk; exact ⟨_, rfl, g2⟩

theorem aBb {d : List Int} (hl : d.length < 2305843009213693951) : ∃ d', kC d = some d' ∧ d'.Perm d ∧ d'.Pairwise (· ≤ ·) := by
  unfold kC
  have hL : ∃ L : Nat, jY (IntKind.u64.wrap ((List.length d : Nat) : Int)) = some (L : Int) ∧ L ≤ 100 := by
    rw [DQ (by omega) (by omega)]
    by_cases h0 : d.length = 0
    · rw [h0]; exact ⟨0, aAG, by omega⟩
    · obtain ⟨k, e, h1, _⟩ := YJ (x := ((List.length d : Nat) : Int)) (by omega) (by omega)
      exact ⟨k + 1, by rw [e]; rfl, by omega⟩
  obtain ⟨L, eL, hL⟩ := hL
  rw [eL]
  simp only [Option.bind_some]
  obtain ⟨d', e, g⟩ := aBX (a := 0) (b := d.length) (lim := L) (d := d) ⟨Nat.zero_le _, Nat.le_refl _, hl, .inl rfl, hL⟩
  have e' : jH d 0 ((List.length d : Nat) : Int) (L : Int) = some d' := e
  rw [e']
  refine ⟨d', rfl, g.1.perm, List.pairwise_iff_getElem.2 fun i j hi hj hij => ?_⟩
  have := g.2 i j (Nat.zero_le _) (by omega) (by rw [g.1.len] at hj; exact hj)
  simp only [gN, List.getD_eq_getElem?_getD, List.getElem?_eq_getElem hi, List.getElem?_eq_getElem hj] at this
  exact this

theorem aBD {d s : List Int} (hl : d.length < 2305843009213693951) (hp : s.Perm d) (hs : s.Pairwise (· ≤ ·)) : kC d = some s := by
  obtain ⟨d', e, p, q⟩ := aBb hl
  rw [e]
  congr 1
  exact (p.trans hp.symm).eq_of_pairwise (le := (· ≤ ·)) (fun a b _ _ h1 h2 => Int.le_antisymm h1 h2) q hs

end Go.Abs
namespace Go.Abs
open Go
theorem HS {t : Int} : ∀ {ps : List Int}, t ∉ ps → (mY t ps).Perm (t :: ps)
  | [], _ => List.Perm.refl _
  | p :: r, h => by
    simp only [List.mem_cons, not_or] at h
    unfold mY
    rw [if_neg (fun e => h.1 e.symm)]
    split
    · exact List.Perm.refl _
    · exact (List.Perm.cons p (HS h.2)).trans (List.Perm.swap ..)

theorem GI : ∀ {ps : List Int} {last : Int}, Inc last ps → ps.Pairwise (· < ·)
  | [], _, _ => List.Pairwise.nil
  | p :: r, last, h => List.Pairwise.cons (fun x hx => (h.2.above x hx).1) (GI h.2)

theorem aA5 {ps : List Int} {last : Int} (h : Inc last ps) : ps.Pairwise (· ≤ ·) := (GI h).imp fun h => by omega

end Go.Abs
namespace Go.Abs
open Go
theorem TX {l : List aL} (hl : okL l) (hm : lQ l = true) : (∀ g ∈ groups l, eY g.2 = true ∧ g.1.length ≤ 4398046510976) ∧ (groups l).length ≤ 4096 := by
  obtain ⟨h1, h2, _⟩ := pQ hm
  exact ⟨fun g hg => ⟨(h2 g hg).2, zV hl hg⟩, by have := HR l; omega⟩

end Go.Abs
namespace Go.Abs
open Go
def iP (hop n : Int) : Int := if n < 0 then 0 else (n / hop + 1) * hop

def uP (size hop : Int) : Bool := (((decide ((1 : Int) ≤ size)) && (decide (size ≤ (1099511627776 : Int)))) && (decide ((1 : Int) ≤ hop))) && (decide (hop ≤ (1099511627776 : Int)))

def mR (t : Int) : Bool := (decide ((0 : Int) ≤ t)) && (decide (t ≤ (1125899906842624 : Int)))

def oD (size hop t : Int) : Int × Int :=
  if !uP size hop then (0, 2) else if !mR t then (0, 13) else if t = 1125899906842624 then (1125899906842624, 0) else (min (iP hop (t - size)) 1125899906842624, 0)

theorem DA {size hop : Int} (h : uP size hop = true) : 1 ≤ size ∧ size ≤ 1099511627776 ∧ 1 ≤ hop ∧ hop ≤ 1099511627776 := by
  simp only [uP, Bool.and_eq_true, decide_eq_true_eq] at h; omega

theorem BQ {t : Int} (h : mR t = true) : 0 ≤ t ∧ t ≤ 1125899906842624 := by
  simp only [mR, Bool.and_eq_true, decide_eq_true_eq] at h; omega

theorem aAK {n hop : Int} (h : 0 ≤ n) : Int.tdiv n hop = n / hop := Int.tdiv_eq_ediv_of_nonneg h

theorem EC {n hop : Int} (hh : 1 ≤ hop) : n / hop * hop ≤ n ∧ n < (n / hop + 1) * hop := by
  have h1 := Int.mul_ediv_add_emod n hop
  have h2 := Int.emod_nonneg n (show hop ≠ 0 by omega)
  have h3 := Int.emod_lt_of_pos n (show 0 < hop by omega)
  rw [Int.add_mul, Int.mul_comm (n / hop) hop]
  omega

theorem sD {hop n : Int} (hh : 1 ≤ hop) : 0 ≤ iP hop n ∧ n < iP hop n ∧ (0 ≤ n → iP hop n ≤ n + hop) ∧ (n < 0 → iP hop n = 0) ∧ ∃ k : Int, iP hop n = k * hop := by
  unfold iP
  split
  · exact ⟨Int.le_refl _, by omega, by omega, fun _ => rfl, 0, by simp⟩
  · rename_i h
    have := EC (n := n) hh
    rw [Int.add_mul] at this ⊢
    refine ⟨by omega, by omega, by omega, by omega, n / hop + 1, by rw [Int.add_mul]⟩

theorem CQ {hop n : Int} (h1 : 1 ≤ hop) (h2 : hop ≤ 1099511627776) (h3 : n ≤ 4503599627370496) : oC hop n = some (iP hop n) := by
  unfold oC
  by_cases hn : n < 0
  · simp [hn, iP]
  · have hn0 : 0 ≤ n := by omega
    have hm : Int.tmod n hop = n % hop := Int.tmod_eq_emod_of_nonneg hn0
    have hr : ¬ n % hop < 0 := by have := Int.emod_nonneg n (show hop ≠ 0 by omega); omega
    have hd0 : 0 ≤ n / hop := Int.ediv_nonneg hn0 (by omega)
    have hd1 : n / hop ≤ n := Int.ediv_le_self _ hn0
    have hf := EC (n := n) h1
    have e1 : wR (Int.tdiv n hop) = n / hop := by rw [aAK hn0]; exact eH (by omega) (by omega)
    have e2 : IntKind.i64.wrap (n / hop + 1) = n / hop + 1 := eH (by omega) (by omega)
    have e3 : IntKind.i64.wrap ((n / hop + 1) * hop) = (n / hop + 1) * hop := eH (by omega) (by rw [Int.add_mul]; omega)
    have e0 : tO n hop = some (n / hop, n % hop, 0) := by
      unfold tO
      have hb : decide (hop < 1) = false := by simp; omega
      rw [hb, cond_false, aQ (by omega), aQ (by omega), hm, decide_eq_false hr, cond_false]
      unfold sJ
      rw [show IntKind.i64.wrap (Int.tdiv n hop) = n / hop from e1]
    have hb : decide (n < (0 : Int)) = false := decide_eq_false hn
    rw [hb, cond_false, e0]
    simp only [Option.bind_some, e2, e3, iP, if_neg hn]

theorem SF {size hop t : Int} : sX size hop t = some (oD size hop t) := by
  unfold sX oD
  simp only [pV, mP, Option.bind_some]
  rw [show ((((decide ((1 : Int) ≤ size)) && (decide (size ≤ (1099511627776 : Int)))) && (decide ((1 : Int) ≤ hop))) && (decide (hop ≤ (1099511627776 : Int)))) = uP size hop from rfl, show ((decide ((0 : Int) ≤ t)) && (decide (t ≤ (1125899906842624 : Int)))) = mR t from rfl]
  cases hm : uP size hop with
  | false => rfl
  | true =>
    cases ht : mR t with
    | false => rfl
    | true =>
      have hm' := DA hm; have ht' := BQ ht
      by_cases hf : t = 1125899906842624
      · simp [hf]
      · have e1 : IntKind.i64.wrap (t - size) = t - size := eH (by omega) (by omega)
        simp only [Bool.not_true, cond_false, decide_eq_false hf, Bool.false_eq_true, if_false, if_neg hf, e1]
        rw [CQ hm'.2.2.1 hm'.2.2.2 (by omega)]
        simp only [Option.bind_some]
        have : (if (1125899906842624 : Int) < iP hop (t - size) then (1125899906842624 : Int) else iP hop (t - size)) = min (iP hop (t - size)) 1125899906842624 := by
          rw [Int.min_def]; split <;> split <;> omega
        rw [this]

def aAN (hop : Int) : Nat → Int → List Int
  | 0, _ => []
  | n + 1, t => t :: aAN hop n (t + hop)

def zE (hop t b : Int) : List Int := aAN hop ((b - t + hop - 1) / hop).toNat t

theorem GP {hop t b : Int} (hh : 1 ≤ hop) (h : b ≤ t) : zE hop t b = [] := by
  unfold zE
  have : (b - t + hop - 1) / hop ≤ 0 := by
    have h1 : b - t + hop - 1 < 1 * hop := by omega
    have := Int.ediv_lt_of_lt_mul (by omega) h1
    omega
  rw [show ((b - t + hop - 1) / hop).toNat = 0 by omega]; rfl

theorem EB {hop t b : Int} (hh : 1 ≤ hop) (h : t < b) : zE hop t b = t :: zE hop (t + hop) b := by
  unfold zE
  have h1 : (b - t + hop - 1) / hop = (b - (t + hop) + hop - 1) / hop + 1 := by
    rw [show b - t + hop - 1 = (b - (t + hop) + hop - 1) + hop by omega, Int.add_ediv_of_dvd_right (Int.dvd_refl hop), Int.ediv_self (by omega)]
  have h2 : 0 ≤ (b - (t + hop) + hop - 1) / hop := Int.ediv_nonneg (by omega) (by omega)
  rw [h1, show ((b - (t + hop) + hop - 1) / hop + 1).toNat = ((b - (t + hop) + hop - 1) / hop).toNat + 1 by omega]
  rfl

theorem GX {hop b : Int} (hh : 1 ≤ hop) {C : Int → Prop} (h0 : ∀ t, b ≤ t → C t) (h1 : ∀ t, t < b → C (t + hop) → C t) (t : Int) : C t := by
  generalize hn : (b - t).toNat = n
  induction n using Nat.strongRecOn generalizing t with
  | ind n ih =>
    by_cases h : t < b
    · exact h1 t h (ih (b - (t + hop)).toNat (by omega) _ rfl)
    · exact h0 t (by omega)

theorem OW {hop b x : Int} (hh : 1 ≤ hop) : ∀ t, x ∈ zE hop t b ↔ ∃ k : Nat, x = t + k * hop ∧ x < b := by
  refine GX hh (b := b) (fun t h => ?_) (fun t h ih => ?_)
  · rw [GP hh h]
    simp only [List.not_mem_nil, false_iff, not_exists, not_and]
    intro k hk
    have : 0 ≤ (k : Int) * hop := Int.mul_nonneg (by omega) (by omega)
    omega
  · rw [EB hh h, List.mem_cons, ih]
    constructor
    · rintro (rfl | ⟨k, rfl, hk⟩)
      · exact ⟨0, by simp, h⟩
      · refine ⟨k + 1, ?_, hk⟩
        rw [Int.natCast_add, Int.add_mul]; omega
    · rintro ⟨k, hk1, hk2⟩
      match k with
      | 0 => left; simpa using hk1
      | k + 1 =>
        right
        refine ⟨k, ?_, hk2⟩
        rw [Int.natCast_add, Int.add_mul] at hk1; omega

theorem WI {hop b : Int} (hh : 1 ≤ hop) : ∀ t, (zE hop t b).Pairwise (· < ·) ∧ ∀ x ∈ zE hop t b, t ≤ x := by
  refine GX hh (b := b) (fun t h => ?_) (fun t h ih => ?_)
  · rw [GP hh h]; simp
  · rw [EB hh h]
    refine ⟨List.pairwise_cons.2 ⟨fun x hx => ?_, ih.1⟩, fun x hx => ?_⟩
    · have := ih.2 x hx; omega
    · rcases List.mem_cons.1 hx with rfl | hx
      · exact Int.le_refl _
      · have := ih.2 x hx; omega

def rQ {σ α : Type} (y : σ → α → Option (σ × Bool)) : List α → σ → Option σ
  | [], s => some s
  | a :: r, s => (y s a).bind fun x => if x.2 then rQ y r x.1 else some x.1

def qW (size hop frm : Int) (s : bJ) : Int := max (iP hop (s.From - size)) (iP hop (frm - 1))

def sU (front : Int) (s : bJ) : Int := min (min s.To front) 1125899906842624

def mH (size hop frm front : Int) (s : bJ) : List Int := zE hop (qW size hop frm s) (sU front s)

structure OkH (size hop frm front : Int) : Prop where
  s0 : 1 ≤ size
  s1 : size ≤ 1099511627776
  h0 : 1 ≤ hop
  h1 : hop ≤ 1099511627776
  f0 : 0 ≤ frm
  f1 : frm ≤ 1125899906842624
  r0 : 0 ≤ front
  r1 : front ≤ 1125899906842624

theorem NY {σ : Type} {y : σ → Int → Option (σ × Bool)} {hop front : Int} {sp : bJ} (hh : 1 ≤ hop) (hh1 : hop ≤ 1099511627776) : ∀ (t : Int) (s s' : σ), 0 ≤ t → rQ y (zE hop t (sU front sp)) s = some s' → nK y s hop sp front t = some s' := by
  have main : ∀ (t : Int), ∀ (s s' : σ), 0 ≤ t → rQ y (zE hop t (sU front sp)) s = some s' → ∃ x, lp (fun s => iX y hop sp front s.1 s.2) (s, t) = some x ∧ Sum.elim id id x = s' := by
    have hbe : (if (1125899906842624 : Int) < (if front < sp.To then front else sp.To) then (1125899906842624 : Int) else (if front < sp.To then front else sp.To)) = sU front sp := by
      unfold sU; simp only [Int.min_def]; split <;> split <;> split <;> split <;> omega
    refine GX hh (b := sU front sp) (fun t h s s' ht hi => ?_) (fun t h ih s s' ht hi => ?_)
    · rw [GP hh h] at hi
      simp only [rQ, Option.some.injEq] at hi
      refine ⟨.inl s, cV ?_, hi⟩
      show iX _ _ _ _ _ _ = _
      simp only [iX, hbe]
      rw [decide_eq_false (by omega), cond_false]
    · rw [EB hh h] at hi
      simp only [rQ] at hi
      obtain ⟨x, hx, hi⟩ := aV hi
      have hb1 : sU front sp ≤ 1125899906842624 := Int.min_le_right _ _
      have hw : IntKind.i64.wrap (t + hop) = t + hop := eH (by omega) (by omega)
      have hb : (fun s : σ × Int => iX y hop sp front s.1 s.2) (s, t) = some (if x.2 then .inl (x.1, t + hop) else .inr (.inr x.1)) := by
        show iX _ _ _ _ _ _ = _
        simp only [iX, hbe]
        rw [decide_eq_true h, cond_true, hx]
        simp only [Option.bind_some, hw]
        cases x.2 <;> rfl
      cases hx2 : x.2
      · rw [hx2] at hb hi
        simp only [Bool.false_eq_true, if_false, Option.some.injEq] at hb hi
        exact ⟨_, cV hb, hi⟩
      · rw [hx2] at hb hi
        simp only [if_true] at hb hi
        obtain ⟨z, hz1, hz2⟩ := ih x.1 s' (by omega) hi
        exact ⟨z, by rw [gF hb]; exact hz1, hz2⟩
  intro t s s' ht hi
  obtain ⟨x, h1, h2⟩ := main t s s' ht hi
  unfold nK
  rw [h1]
  cases x <;> simpa using h2

theorem HF {σ : Type} {y : σ → Int → Option (σ × Bool)} {size hop frm front : Int} {sp : bJ} (ok : OkH size hop frm front) (h1 : -1 ≤ sp.From) (h2 : sp.From ≤ 1125899906842624) {s s' : σ} (h : rQ y (mH size hop frm front sp) s = some s') :
    mI y hop sp size frm front s = some s' := by
  obtain ⟨a1, a2, a3, a4, a5, a6, a7, a8⟩ := ok
  unfold mI
  have w1 : IntKind.i64.wrap (sp.From - size) = sp.From - size := eH (by omega) (by omega)
  have w2 : IntKind.i64.wrap (frm - 1) = frm - 1 := eH (by omega) (by omega)
  rw [w1, w2, CQ a3 a4 (by omega), CQ a3 a4 (by omega)]
  simp only [Option.bind_some]
  have e : (if iP hop (frm - 1) > iP hop (sp.From - size) then iP hop (frm - 1) else iP hop (sp.From - size)) = qW size hop frm sp := by
    unfold qW; rw [Int.max_def]; split <;> split <;> omega
  rw [e]
  refine NY a3 a4 _ _ _ ?_ h
  have := (sD (n := sp.From - size) a3).1
  unfold qW; omega

end Go.Abs
namespace Go.Abs
open Go
def okC (x : List dR) : Prop := x.length ≤ 1000000 ∧ ∀ c ∈ x, c.Row.length ≤ 17592186044416

theorem MD {x : List dR} (h : okC x) : mW x x = some true := by
  unfold mW oE
  rw [HU rfl, cond_false]
  have h1 := h.1
  rw [XW (l := x) (body := fun s => lA x x s) (fun i => i) (fun _ => false) (.inr false) (.inl ()) ?_ ?_]
  · simp [mG]
  · intro i a ha
    obtain ⟨d1, d2, d3, d4⟩ := idx ha (by omega)
    simp only [lA, d1, cond_true, aQ d2, d3, d4, decide_true, Bool.not_true, Bool.not_false, dG, MO a.Row a.Row (h.2 a (List.mem_of_getElem? ha)), Option.bind_some, Bool.false_or, cond_false]
    rw [aQ (fun _ => d2), aQ (fun _ => d2)]
    rfl
  · simp only [lA, lY, cond_false]

theorem QL {x : List aU} (h1 : x.length ≤ 1000000) (h : ∀ p ∈ x, okC p.Rows) : sE x x = some true := by
  unfold sE uC
  rw [HU rfl, cond_false]
  rw [XW (l := x) (body := fun s => oL x x s) (fun i => i) (fun _ => false) (.inr false) (.inl ()) ?_ ?_]
  · simp [qU]
  · intro i a ha
    obtain ⟨d1, d2, d3, d4⟩ := idx ha (by omega)
    simp only [oL, d1, cond_true, aQ d2, d3, d4, decide_true, Bool.and_self, Bool.not_true, Bool.not_false, dG, MD (h a (List.mem_of_getElem? ha)), Option.bind_some, Bool.false_or, cond_false]
    rw [aQ (fun _ => d2), aQ (fun _ => d2)]
    rfl
  · simp only [oL, lY, cond_false]

def IF : aE := ⟨1, 1, ByteArray.empty⟩

end Go.Abs
namespace Go.Abs
open Go
theorem LS : ∀ {a b : List Int}, a.Pairwise (· < ·) → b.Pairwise (· < ·) → (∀ x, x ∈ a ↔ x ∈ b) → a = b
  | [], [], _, _, _ => rfl
  | [], y :: b, _, _, h => by have := (h y).2 (by simp); simp at this
  | x :: a, [], _, _, h => by have := (h x).1 (by simp); simp at this
  | x :: a, y :: b, ha, hb, h => by
    obtain ⟨a1, a2⟩ := List.pairwise_cons.1 ha
    obtain ⟨b1, b2⟩ := List.pairwise_cons.1 hb
    have hxy : x = y := by
      rcases List.mem_cons.1 ((h x).1 (by simp)) with h1 | h1
      · exact h1
      · rcases List.mem_cons.1 ((h y).2 (by simp)) with h2 | h2
        · exact h2.symm
        · have := a1 y h2; have := b1 x h1; omega
    subst hxy
    rw [LS a2 b2 fun z => ?_]
    constructor
    · intro hz
      rcases List.mem_cons.1 ((h z).1 (by simp [hz])) with h1 | h1
      · have := a1 z hz; omega
      · exact h1
    · intro hz
      rcases List.mem_cons.1 ((h z).2 (by simp [hz])) with h1 | h1
      · have := b1 z hz; omega
      · exact h1

theorem VZ {d : List Int} (hd : d.Pairwise (· ≤ ·)) {i j : Nat} (hij : i ≤ j) (hj : j < d.length) : d.getD i 0 ≤ d.getD j 0 := by
  rw [List.getD_eq_getElem?_getD, List.getD_eq_getElem?_getD, List.getElem?_eq_getElem (by omega), List.getElem?_eq_getElem hj]
  rcases Nat.lt_or_ge i j with h | h
  · exact List.pairwise_iff_getElem.1 hd i j (by omega) hj h
  · have : i = j := by omega
    subst this; exact Int.le_refl _

theorem LO {d : List Int} {p : Nat} (hp : p < d.length) : d.take (p + 1) = d.take p ++ [d.getD p 0] := by
  rw [List.take_add_one, List.getElem?_eq_getElem hp, List.getD_eq_getElem?_getD, List.getElem?_eq_getElem hp]; rfl

theorem RW {d : List Int} (hd : d.Pairwise (· ≤ ·)) {p : Nat} (hp : p < d.length) {x : Int} (hx : x ∈ d.take (p + 1)) : x ≤ d.getD p 0 := by
  obtain ⟨i, hi⟩ := List.getElem?_of_mem hx
  rw [List.getElem?_take] at hi
  split at hi
  · rename_i hlt
    have := VZ hd (i := i) (j := p) (by omega) hp
    rw [List.getD_eq_getElem?_getD (i := i), hi] at this
    exact this
  · cases hi

def Kept (d c : List Int) (p : Nat) : Prop := c.Pairwise (· < ·) ∧ ∀ x, x ∈ c ↔ x ∈ d.take p

theorem Kept.same {d c : List Int} {p : Nat} (h : Kept d c p) (h0 : 0 < p) (hp : p < d.length) (e : d.getD p 0 = d.getD (p - 1) 0) : Kept d c (p + 1) := by
  refine ⟨h.1, fun x => ?_⟩
  rw [h.2 x, LO hp, List.mem_append]
  constructor
  · exact .inl
  · rintro (h1 | h1)
    · exact h1
    · rw [List.mem_singleton.1 h1, e]
      have : p - 1 < p := by omega
      refine List.mem_of_getElem? (i := p - 1) ?_
      rw [List.getElem?_take, if_pos this, List.getD_eq_getElem?_getD, List.getElem?_eq_getElem (by omega)]; rfl

theorem Kept.more {d c : List Int} {p : Nat} (hd : d.Pairwise (· ≤ ·)) (h : Kept d c p) (h0 : 0 < p) (hp : p < d.length) (e : d.getD p 0 ≠ d.getD (p - 1) 0) : Kept d (c ++ [d.getD p 0]) (p + 1) := by
  have hle := VZ hd (i := p - 1) (j := p) (by omega) hp
  refine ⟨?_, fun x => by rw [LO hp, List.mem_append, List.mem_append, h.2 x]⟩
  rw [List.pairwise_append]
  refine ⟨h.1, by simp, fun a ha b hb => ?_⟩
  rw [List.mem_singleton.1 hb]
  have ha' := (h.2 a).1 ha
  have : a ≤ d.getD (p - 1) 0 := by
    refine RW hd (by omega) ?_
    rwa [show p - 1 + 1 = p by omega]
  omega

end Go.Abs
namespace Go.Abs
open Go
def inW (a b : Int) (j : aB) : Bool := decide (0 < j.Net) && (decide (a ≤ j.At) && decide (j.At < b))

def wC (a b : Int) (f : List aB) : Int := ((f.filter (inW a b)).map aB.Net).sum

def qC (rs : List dR) : dR := rs.getD (rs.length - 1) default

theorem DK (a b : Int) (j : aB) (f : List aB) : wC a b (j :: f) = (if inW a b j then j.Net else 0) + wC a b f := by
  unfold wC
  by_cases h : inW a b j <;> simp [h]

end Go.Abs
namespace Go.Abs
open Go
theorem w00 : IntKind.i64.wrap 0 = 0 := eH (by omega) (by omega)

def nI : Int → Int → List aB → List bJ
  | n, fr, [] => if 0 < n then [⟨fr, 1125899906842624⟩] else []
  | n, fr, j :: r => if n + j.Net = 0 then ⟨if n = 0 then j.At else fr, j.At⟩ :: nI 0 (if n = 0 then j.At else fr) r else nI (n + j.Net) (if n = 0 then j.At else fr) r

def zJ (f : List aB) : List bJ := nI 0 0 f

def xU (n : Int) (f : List aB) : Prop := n ≤ 1048576 * (2048 - f.length) ∧ -(1048576 * (2048 - f.length)) ≤ n ∧ f.length ≤ 1024

theorem xU.next {n : Int} {j : aB} {r : List aB} (h : xU n (j :: r)) (hj : j.Net ≤ 1048576 ∧ -1048576 ≤ j.Net) : xU (n + j.Net) r := by
  obtain ⟨h1, h2, h3⟩ := h
  simp only [List.length_cons] at h1 h2 h3
  exact ⟨by omega, by omega, by omega⟩

theorem xU.small {n : Int} {f : List aB} (h : xU n f) : n ≤ 4294967296 ∧ -4294967296 ≤ n := by
  obtain ⟨h1, h2, h3⟩ := h
  omega

theorem xU.zero {n : Int} {f : List aB} (h : xU n f) : xU 0 f := by
  obtain ⟨h1, h2, h3⟩ := h
  exact ⟨by omega, by omega, h3⟩

theorem PO {σ : Type} {y : σ → bJ → Option (σ × Bool)} {f : List aB} (hl : f.length ≤ 1024) : ∀ (r : List aB) (k : Nat) (last n fr : Int) (s s' : σ), f.drop k = r → k ≤ f.length → mF last r → xU n r → rQ y (nI n fr r) s = some s' →
    ∃ x, lp (fun s : σ × Int × Int × Int => fR y f ((f.length : Nat) : Int) s.1 s.2.1 s.2.2.1 s.2.2.2) (s, n, fr, (k : Int)) = some x ∧ Sum.elim (fun rr => mJ y rr.1 rr.2.1 rr.2.2) (fun rr => some rr) x = some s' := by
  intro r
  induction r with
  | nil =>
    intro k last n fr s s' hd hk _ _ h
    have hk' : k = f.length := by
      have := congrArg List.length hd
      simp at this; omega
    subst hk'
    refine ⟨.inl (s, n, fr), cV ?_, ?_⟩
    · show fR _ _ _ _ _ _ _ = _
      simp only [fR, lY, cond_false]
    · simp only [Sum.elim_inl, mJ]
      by_cases hn : 0 < n
      · simp only [nI, hn, if_true, rQ] at h
        obtain ⟨x, hx, h⟩ := aV h
        rw [decide_eq_true hn, cond_true, hx]
        simp only [Option.bind_some]
        cases hx2 : x.2 <;> rw [hx2] at h <;> simpa using h
      · simp only [nI, hn, if_false, rQ] at h
        rw [decide_eq_false hn, cond_false]; exact h
  | cons j r ih =>
    intro k last n fr s s' hd hk hr hroom h
    obtain ⟨hget, hd'⟩ := drop_cons hd
    have hlt : k < f.length := (List.getElem?_eq_some_iff.1 hget).1
    obtain ⟨d1, d2, d3, d4⟩ := idx hget (by omega)
    have hj := hr.1
    have hnx := hroom.next ⟨hj.2.2.2.1, hj.2.2.2.2⟩
    have hsm := hnx.small
    have hw : IntKind.i64.wrap (n + j.Net) = n + j.Net := eH (by omega) (by omega)
    -- what the body does
    have body : fR y f ((f.length : Nat) : Int) s n fr (k : Int) = lK y s n (if n = 0 then j.At else fr) j f ((f.length : Nat) : Int) (k : Int) := by
      simp only [fR, d1, cond_true, aQ d2, d3]
      by_cases hn : n = 0 <;> simp [hn]
    by_cases hz : n + j.Net = 0
    · simp only [nI, hz, if_true, rQ] at h
      obtain ⟨x, hx, h⟩ := aV h
      have hb : (fun s : σ × Int × Int × Int => fR y f ((f.length : Nat) : Int) s.1 s.2.1 s.2.2.1 s.2.2.2) (s, n, fr, (k : Int)) = some (if x.2 then .inl (x.1, 0, (if n = 0 then j.At else fr), ((k + 1 : Nat) : Int)) else .inr (.inr x.1)) := by
        show fR _ _ _ _ _ _ _ = _
        rw [body]
        simp only [lK, hw, d4, hz, w00, decide_true, DO, cond_true, hx, Option.bind_some, Bool.true_and]
        cases x.2 <;> rfl
      cases hx2 : x.2
      · rw [hx2] at hb h
        simp only [Bool.false_eq_true, if_false, Option.some.injEq] at hb h
        exact ⟨_, cV hb, by simpa using h⟩
      · rw [hx2] at hb h
        simp only [if_true] at hb h
        obtain ⟨z, hz1, hz2⟩ := ih (k + 1) j.At 0 _ x.1 s' hd' (by omega) hr.2 hnx.zero h
        exact ⟨z, by rw [gF hb]; exact hz1, hz2⟩
    · simp only [nI, hz, if_false] at h
      have hb : (fun s : σ × Int × Int × Int => fR y f ((f.length : Nat) : Int) s.1 s.2.1 s.2.2.1 s.2.2.2) (s, n, fr, (k : Int)) = some (.inl (s, n + j.Net, (if n = 0 then j.At else fr), ((k + 1 : Nat) : Int))) := by
        show fR _ _ _ _ _ _ _ = _
        rw [body]
        simp only [lK, hw, d4, decide_eq_false hz, DO, cond_false, Option.bind_some, Bool.false_and]
      obtain ⟨z, hz1, hz2⟩ := ih (k + 1) j.At (n + j.Net) _ s s' hd' (by omega) hr.2 hnx h
      exact ⟨z, by rw [gF hb]; exact hz1, hz2⟩

theorem VA {σ : Type} {y : σ → bJ → Option (σ × Bool)} {f : List aB} (hf : eY f = true) {s s' : σ} (h : rQ y (zJ f) s = some s') : oW y f s = some s' := by
  obtain ⟨hl, hr⟩ := mL.1 hf
  obtain ⟨x, h1, h2⟩ := PO (y := y) hl f 0 (-2) 0 0 s s' rfl (by omega) hr ⟨by omega, by omega, hl⟩ h
  unfold oW qD
  simp only [Int.natCast_zero] at h1
  rw [h1]
  exact h2

theorem BF {x : Int} (hx : x < 1125899906842624) : ∀ {f : List aB} {last n fr : Int}, mF last f → (∀ t, 0 ≤ n + val f t) → (n ≠ 0 → fr ≤ last) →
    ((∃ s ∈ nI n fr f, s.From ≤ x ∧ x < s.To) ↔ (n ≠ 0 → fr ≤ x) ∧ 0 < n + val f x)
  | [], last, n, fr, _, hn, _ => by
    have h0 := hn 0
    simp only [AT, Int.add_zero] at h0 ⊢
    unfold nI
    by_cases h : 0 < n
    · rw [if_pos h]
      simp only [List.mem_singleton]
      constructor
      · rintro ⟨s, rfl, h1, h2⟩; exact ⟨fun _ => h1, h⟩
      · rintro ⟨h1, _⟩; exact ⟨_, rfl, h1 (by omega), hx⟩
    · rw [if_neg h]
      simp [h]
  | j :: r, last, n, fr, hr, hn, hf => by
    have hj := hr.1
    have hab := hr.2.above
    have hv : ∀ t, t ≤ j.At → val r t = 0 := fun t ht => oT fun k hk => by have := (hab k hk).1; omega
    have hn0 : 0 ≤ n := by
      have := hn (j.At - 1)
      rw [fD, if_neg (by omega), hv _ (by omega)] at this; omega
    have hn1 : 0 ≤ n + j.Net := by
      have := hn j.At
      rw [fD, if_pos (by omega), hv _ (by omega)] at this; omega
    have hn2 : ∀ t, 0 ≤ (n + j.Net) + val r t := fun t => by
      by_cases ht : j.At ≤ t
      · have := hn t
        rw [fD, if_pos ht] at this; omega
      · rw [hv t (by omega)]; omega
    rw [fD]
    unfold nI
    by_cases hz : n + j.Net = 0
    · rw [if_pos hz]
      have ih := BF hx (f := r) (last := j.At) (n := 0) (fr := if n = 0 then j.At else fr) hr.2 (fun t => by have := hn2 t; omega) (by simp)
      have e : (∃ s ∈ (⟨if n = 0 then j.At else fr, j.At⟩ : bJ) :: nI 0 (if n = 0 then j.At else fr) r, s.From ≤ x ∧ x < s.To) ↔ ((if n = 0 then j.At else fr) ≤ x ∧ x < j.At) ∨ (∃ s ∈ nI 0 (if n = 0 then j.At else fr) r, s.From ≤ x ∧ x < s.To) := by
        simp only [List.mem_cons, or_and_right, exists_or, exists_eq_left]
      rw [e, ih]
      by_cases hnz : n = 0
      · omega
      · rw [if_neg hnz]
        have hfl := hf hnz
        by_cases hxj : j.At ≤ x
        · rw [if_pos hxj]
          constructor
          · rintro (h | h)
            · omega
            · exact ⟨fun _ => by omega, by have := h.2; omega⟩
          · rintro ⟨_, h⟩; right; exact ⟨by simp, by omega⟩
        · rw [if_neg hxj, hv x (by omega)]
          constructor
          · rintro (h | h)
            · exact ⟨fun _ => h.1, by omega⟩
            · have := h.2; omega
          · rintro ⟨h, _⟩; left; exact ⟨h hnz, by omega⟩
    · rw [if_neg hz, BF hx (f := r) (last := j.At) (n := n + j.Net) (fr := if n = 0 then j.At else fr) hr.2 hn2 (fun _ => by
        split
        · exact Int.le_refl _
        · rename_i h; have := hf h; omega)]
      by_cases hnz : n = 0
      · simp only [hnz, if_true]
        by_cases hxj : j.At ≤ x
        · rw [if_pos hxj]
          constructor
          · rintro ⟨_, h⟩; exact ⟨by simp, by omega⟩
          · rintro ⟨_, h⟩; exact ⟨fun _ => hxj, by omega⟩
        · rw [if_neg hxj, hv x (by omega)]
          constructor
          · rintro ⟨h, _⟩; exact absurd (h (by omega)) hxj
          · rintro ⟨_, h⟩; omega
      · rw [if_neg hnz]
        by_cases hxj : j.At ≤ x
        · rw [if_pos hxj]
          constructor
          · rintro ⟨h, h2⟩; exact ⟨fun _ => h hz, by omega⟩
          · rintro ⟨h, h2⟩; exact ⟨fun _ => h hnz, by omega⟩
        · rw [if_neg hxj, hv x (by omega)]
          constructor
          · rintro ⟨h, h2⟩; exact ⟨fun _ => h hz, by omega⟩
          · rintro ⟨h, h2⟩; exact ⟨fun _ => h hnz, by omega⟩

theorem AE : ∀ {f : List aB} {last n fr : Int}, mF last f → -2 ≤ last → last < 1125899906842624 → (n ≠ 0 → fr ≤ last ∧ -1 ≤ fr) → ∀ s ∈ nI n fr f, -1 ≤ s.From ∧ s.From < s.To ∧ s.To ≤ 1125899906842624
  | [], last, n, fr, _, h1, h2, hf, s, hs => by
    unfold nI at hs
    split at hs
    · simp only [List.mem_singleton] at hs; subst hs
      have := hf (by omega)
      exact ⟨this.2, by show fr < 1125899906842624; omega, Int.le_refl _⟩
    · simp at hs
  | j :: r, last, n, fr, hr, h1, h2, hf, s, hs => by
    have hj := hr.1
    have key : (if n = 0 then j.At else fr) ≤ j.At ∧ -1 ≤ (if n = 0 then j.At else fr) := by
      split
      · omega
      · rename_i h; have := hf h; omega
    unfold nI at hs
    split at hs
    · rcases List.mem_cons.1 hs with rfl | hs
      · rename_i hz
        have hnz : n ≠ 0 := by omega
        have := hf hnz
        refine ⟨key.2, ?_, by show j.At ≤ _; omega⟩
        show (if n = 0 then j.At else fr) < j.At
        rw [if_neg hnz]; omega
      · exact AE hr.2 (by omega) (by omega) (by simp) s hs
    · exact AE hr.2 (by omega) (by omega) (fun _ => key) s hs

theorem HI {f : List aB} (hf : eY f = true) (hv : ∀ t, 0 ≤ val f t) {x : Int} (hx : x < 1125899906842624) : (∃ s ∈ zJ f, s.From ≤ x ∧ x < s.To) ↔ 0 < val f x := by
  rw [zJ, BF hx (mL.1 hf).2 (fun t => by have := hv t; omega) (by simp)]
  simp

theorem FM {f : List aB} (hf : eY f = true) : ∀ s ∈ zJ f, -1 ≤ s.From ∧ s.From < s.To ∧ s.To ≤ 1125899906842624 :=
  AE (mL.1 hf).2 (by omega) (by omega) (by simp)

def eM (f : List aB) (a b : Int) : Int := val f a + wC (a + 1) b f

theorem IW (a b : Int) : ∀ {f : List aB}, (∀ j ∈ f, j.Net ≤ 1048576) → 0 ≤ wC a b f ∧ wC a b f ≤ 1048576 * f.length
  | [], _ => by simp [wC]
  | j :: r, h => by
    have ih := IW a b (f := r) fun k hk => h k (List.mem_cons_of_mem _ hk)
    have hj := h j (by simp)
    rw [DK]
    simp only [List.length_cons, Int.natCast_add, Int.natCast_one, Int.mul_add, Int.mul_one]
    by_cases hi : inW a b j = true
    · rw [if_pos hi]
      simp only [inW, Bool.and_eq_true, decide_eq_true_eq] at hi
      omega
    · rw [if_neg hi]; omega

theorem HQ {f : List aB} (hf : eY f = true) {w : bJ} : qY f w = some (eM f w.From w.To) := by
  obtain ⟨hl, hr⟩ := mL.1 hf
  have hb := hr.above
  have hv := KS (f := f) w.From (show (0 : Int) ≤ 1048576 by omega) fun j hj => ⟨(hb j hj).2.2.2.1, (hb j hj).2.2.2.2⟩
  unfold qY
  rw [aCy, hf]
  simp only [if_true, Option.bind_some]
  unfold tA
  have key := BC (l := f) (body := fun s : Int × Int => nW w f ((f.length : Nat) : Int) s.1 s.2) (fun (n : Int) i => (n, i)) (fun n r => n + wC (w.From + 1) w.To r)
    (fun n r => n ≤ 1048576 * (2048 - r.length) ∧ -(1048576 * (2048 - r.length)) ≤ n ∧ r.length ≤ 1024 ∧ ∀ j ∈ r, j.Net ≤ 1048576 ∧ -1048576 ≤ j.Net) (val f w.From) ?_ ?_ ⟨by omega, by omega, hl, fun j hj => ⟨(hb j hj).2.2.2.1, (hb j hj).2.2.2.2⟩⟩
  · rw [key]
    rfl
  · intro i j r n hj hI
    left
    obtain ⟨d1, d2, d3, d4⟩ := idx hj (by omega)
    obtain ⟨i1, i2, i3, i4⟩ := hI
    simp only [List.length_cons] at i1 i2 i3
    have i5 := i4 j (by simp)
    have hmx : (if (0 : Int) > j.Net then (0 : Int) else j.Net) = if 0 < j.Net then j.Net else 0 := by split <;> split <;> omega
    refine ⟨n + (if inW (w.From + 1) w.To j then j.Net else 0), ?_, ⟨?_, ?_, by omega, fun k hk => i4 k (List.mem_cons_of_mem _ hk)⟩, by rw [DK]; omega⟩
    · have e1 : inW (w.From + 1) w.To j = (decide (0 < j.Net) && ((decide (w.From < j.At)) && (decide (j.At < w.To)))) := by
        unfold inW
        have : decide (w.From + 1 ≤ j.At) = decide (w.From < j.At) := decide_eq_decide.2 (by omega)
        rw [this]
      simp only [nW, d1, cond_true, aQ d2, d3, hmx, e1]
      cases hw : (decide (w.From < j.At)) && (decide (j.At < w.To)) with
      | false =>
        simp only [cond_false, nU, d4, Bool.and_false, Bool.false_eq_true, if_false, Int.add_zero]
      | true =>
        have : IntKind.i64.wrap (n + (if 0 < j.Net then j.Net else 0)) = n + (if 0 < j.Net then j.Net else 0) := eH (by split <;> omega) (by split <;> omega)
        simp only [cond_true, nU, d4, this, Bool.and_true, decide_eq_true_eq]
    · split <;> omega
    · split <;> omega
  · intro n _
    simp only [nW, lY, cond_false]
    simp [wC]

theorem NC {a b x : Int} (h1 : a ≤ x) (h2 : x < b) : ∀ f : List aB, val f x ≤ val f a + wC (a + 1) b f
  | [] => by simp [wC, AT]
  | j :: r => by
    have ih := NC h1 h2 r
    rw [fD, fD, DK]
    by_cases hi : inW (a + 1) b j = true
    · rw [if_pos hi]
      simp only [inW, Bool.and_eq_true, decide_eq_true_eq] at hi
      split <;> split <;> omega
    · rw [if_neg hi]
      have hi : ¬ (0 < j.Net ∧ a + 1 ≤ j.At ∧ j.At < b) := by simpa [inW] using hi
      split <;> split <;> omega

theorem NG : ∀ {f : List aB} {last : Int}, mF last f → ∀ j ∈ f, val f j.At = val f (j.At - 1) + j.Net
  | [], _, _, j, hj => by simp at hj
  | k :: r, last, hr, j, hj => by
    have hab := hr.2.above
    rw [fD, fD]
    rcases List.mem_cons.1 hj with rfl | hj
    · rw [if_pos (by omega), if_neg (by omega), oT (f := r) fun q hq => (hab q hq).1, oT (f := r) fun q hq => by have := (hab q hq).1; omega]
      omega
    · have := (hab j hj).1
      rw [if_pos (by omega), if_pos (by omega), NG hr.2 j hj]
      omega

theorem FH {f : List aB} (hf : eY f = true) (hv : ∀ t, 0 ≤ val f t) {a b : Int} (hab : a < b) : 0 < eM f a b ↔ ∃ x, a ≤ x ∧ x < b ∧ 0 < val f x := by
  obtain ⟨hl, hr⟩ := mL.1 hf
  have hb := hr.above
  have hg := IW (a + 1) b (f := f) fun j hj => (hb j hj).2.2.2.1
  unfold eM
  constructor
  · intro h
    by_cases h0 : 0 < val f a
    · exact ⟨a, Int.le_refl _, hab, h0⟩
    · have hva := hv a
      have hne : f.filter (inW (a + 1) b) ≠ [] := by
        intro hc
        unfold wC at h
        rw [hc] at h
        simp at h; omega
      obtain ⟨j, hj⟩ := List.exists_mem_of_ne_nil _ hne
      obtain ⟨hj1, hj2⟩ := List.mem_filter.1 hj
      simp only [inW, Bool.and_eq_true, decide_eq_true_eq] at hj2
      have := NG hr j hj1
      have := hv (j.At - 1)
      exact ⟨j.At, by omega, by omega, by omega⟩
  · rintro ⟨x, h1, h2, h3⟩
    have := NC h1 h2 f
    omega

end Go.Abs
namespace Go.Abs
open Go
theorem KT {β : Type} {k : Int} {v : β} : ∀ {m : List (Int × β)}, k ∈ m.map (·.1) → (gR m k v).map (·.1) = m.map (·.1)
  | [], h => by simp at h
  | p :: m, h => by
    by_cases hp : p.1 = k
    · simp [gR, hp]
    · simp only [List.map_cons, List.mem_cons] at h
      rcases h with h | h
      · exact absurd h.symm hp
      · simp only [gR, hp, if_false, List.map_cons, KT h]

theorem LG {β : Type} {k : Int} {v : β} {m : List (Int × β)} (h : k ∉ m.map (·.1)) : (gR m k v).map (·.1) = m.map (·.1) ++ [k] := by
  rw [GD fun p hp e => h (List.mem_map.2 ⟨p, hp, e⟩)]; simp

theorem DY {β : Type} {k : Int} : ∀ {m : List (Int × β)}, fG m k = none ↔ k ∉ m.map (·.1)
  | [] => by simp [fG]
  | p :: m => by
    rw [fG]
    by_cases hp : p.1 = k
    · simp [hp]
    · rw [if_neg hp, DY (m := m)]
      simp only [List.map_cons, List.mem_cons, not_or]
      exact ⟨fun h => ⟨fun e => hp e.symm, h⟩, fun h => h.2⟩

theorem DV {β : Type} {k x : Int} {v : β} : ∀ {m : List (Int × β)}, fG (gR m k v) x = if x = k then some v else fG m x
  | [] => by
    simp only [gR, fG]
    by_cases h : k = x
    · simp [h]
    · rw [if_neg h, if_neg (fun e => h e.symm)]
  | p :: m => by
    by_cases hp : p.1 = k
    · simp only [gR, if_pos hp, fG]
      by_cases h : k = x
      · simp [h]
      · rw [if_neg h, if_neg (fun e => h e.symm), if_neg (by rw [hp]; exact h)]
    · simp only [gR, if_neg hp, fG]
      by_cases h : p.1 = x
      · rw [if_pos h, if_pos h, if_neg (fun e => hp (h.trans e))]
      · rw [if_neg h, if_neg h, DV (m := m)]

theorem EM {S α : Type} {f : S → α → Option S} : ∀ {a b : List α} {s : S}, dF f s (a ++ b) = (dF f s a).bind fun s' => dF f s' b
  | [], b, s => rfl
  | x :: a, b, s => by
    simp only [List.cons_append, dF]
    cases f s x with
    | none => rfl
    | some s' => exact EM (a := a)

def mkW (size t : Int) : aU := ⟨⟨t, min (t + size) 1125899906842624⟩, []⟩

def iU (g : List aE × List aB) (p : aU) : aU :=
  if p.Rows = [] ∨ (qC p.Rows).Row ≠ g.1 then ⟨p.Span, p.Rows ++ [⟨g.1, eM g.2 p.Span.From p.Span.To⟩]⟩ else p

def lI (size : Int) (g : List aE × List aB) (m : List (Int × aU)) (t : Int) : Option (List (Int × aU)) :=
  match fG m t with
  | none => if m.length = 1024 then none else some (gR m t (iU g (mkW size t)))
  | some p => some (gR m t (iU g p))

theorem vD (rs : List dR) (c : dR) : qC (rs ++ [c]) = c := by
  unfold qC
  have : (rs ++ [c]).length - 1 = rs.length := by simp
  rw [this, List.getD_eq_getElem?_getD, List.getElem?_append_right (Nat.le_refl _)]
  simp

theorem QY (g : List aE × List aB) (p : aU) : (iU g p).Rows ≠ [] ∧ (qC (iU g p).Rows).Row = g.1 := by
  unfold iU
  split
  · exact ⟨by simp, by rw [vD]⟩
  · rename_i h
    simp only [not_or, Decidable.not_not] at h
    exact h

theorem OH (g : List aE × List aB) (p : aU) : iU g (iU g p) = iU g p := by
  obtain ⟨h1, h2⟩ := QY g p
  have key : ∀ q : aU, q.Rows ≠ [] → (qC q.Rows).Row = g.1 → iU g q = q := fun q a b => by
    unfold iU
    rw [if_neg (by simp [a, b])]
  exact key _ h1 h2

theorem EL {g : List aE × List aB} (hg : eY g.2 = true) (hr : g.1.length ≤ 4398046510976) {p : aU} (hp : p.Rows.length ≤ 1000000) (hlr : p.Rows ≠ [] → (qC p.Rows).Row.length ≤ 4398046510976) : nG g.1 g.2 p = some (iU g p) := by
  unfold nG
  have hlen : IntKind.i64.wrap (((List.length p.Rows : Nat) : Int) - 1) = ((List.length p.Rows : Nat) : Int) - 1 := eH (by omega) (by omega)
  simp only [wR, lN, gD, hlen]
  cases hR : p.Rows with
  | nil =>
    have h0 : decide ((((List.length ([] : List dR) : Nat) : Int) - 1) < 0) = true := by decide
    simp only [h0, Bool.not_true, Bool.true_or, cond_true, dG, cond_false, Option.bind_some]
    rw [aQ (by simp)]
    rw [yF hr, Option.bind_some, HQ hg, Option.bind_some, aQ (by simp)]
    unfold iU
    rw [if_pos (.inl hR), hR]
  | cons c rs =>
    have hl2 : (c :: rs).length ≤ 1000000 := by rw [← hR]; exact hp
    have hge : 0 ≤ (((List.length (c :: rs) : Nat) : Int) - 1) ∧ (((List.length (c :: rs) : Nat) : Int) - 1) < ((List.length (c :: rs) : Nat) : Int) := by simp only [List.length_cons]; omega
    have h0 : decide ((((List.length (c :: rs) : Nat) : Int) - 1) < 0) = false := decide_eq_false (by omega)
    have hlast : List.getD (c :: rs) (Int.toNat (((List.length (c :: rs) : Nat) : Int) - 1)) default = qC (c :: rs) := by
      unfold qC
      congr 1
      omega
    rw [h0]
    simp only [Bool.not_false, Bool.false_or, dG, cond_true]
    rw [aQ (fun _ => hge), hlast]
    have hsame : qB (qC (c :: rs)).Row g.1 = some (decide ((qC (c :: rs)).Row = g.1)) := by
      have := hlr (by rw [hR]; simp)
      rw [hR] at this
      exact IV _ _ (by omega)
    rw [hsame, Option.bind_some]
    unfold iU
    rw [hR]
    by_cases hq : (qC (c :: rs)).Row = g.1
    · rw [decide_eq_true hq, if_neg (by simp [hq])]; rfl
    · rw [decide_eq_false hq, if_pos (.inr hq)]
      simp only [Bool.not_false, cond_true]
      rw [yF hr, Option.bind_some, HQ hg, Option.bind_some, aQ (by simp only [List.length_cons, List.length_nil] at hl2 ⊢; omega)]

def GC (n : Nat) (r : List aE) (p : aU) : Prop := (p.Rows.length ≤ n ∨ (p.Rows ≠ [] ∧ (qC p.Rows).Row = r ∧ p.Rows.length ≤ n + 1)) ∧ (p.Rows ≠ [] → (qC p.Rows).Row.length ≤ 4398046510976)

theorem GC.add {n : Nat} {g : List aE × List aB} (hr : g.1.length ≤ 4398046510976) {p : aU} (h : GC n g.1 p) : GC n g.1 (iU g p) := by
  obtain ⟨h, h'⟩ := h
  unfold iU
  split
  · rename_i hc
    refine ⟨.inr ⟨by simp, by rw [vD], ?_⟩, fun _ => by rw [vD]; exact hr⟩
    rcases h with h | ⟨h1, h2, h3⟩
    · simp; omega
    · rcases hc with hc | hc
      · exact absurd hc h1
      · exact absurd h2 hc
  · exact ⟨h, h'⟩

def BE (n : Nat) (r : List aE) (m : List (Int × aU)) : Prop := ∀ t p, fG m t = some p → GC n r p

theorem aAA {size : Int} {g : List aE × List aB} (hg : eY g.2 = true) (hr : g.1.length ≤ 4398046510976) {n : Nat} (hn : n ≤ 900000) {m : List (Int × aU)} (hm : BE n g.1 m) {t : Int} (h0 : 0 ≤ t) (h1 : t < 1125899906842624) (hs0 : 0 ≤ size) (hs : size ≤ 1099511627776) (b : Bool) :
    (∀ m', lI size g m t = some m' → mC g.1 g.2 size b m t = some (.inl (b, m')) ∧ BE n g.1 m') ∧ (lI size g m t = none → mC g.1 g.2 size b m t = some (.inr (false, m))) := by
  unfold lI mC
  have small : ∀ p, GC n g.1 p → p.Rows.length ≤ 1000000 := fun p hp => by rcases hp.1 with h | ⟨_, _, h⟩ <;> omega
  have put : ∀ p, GC n g.1 p → BE n g.1 (gR m t (iU g p)) := by
    intro p hp t' p' h
    rw [DV] at h
    split at h
    · cases h; exact hp.add hr
    · exact hm t' p' h
  cases hgt : fG m t with
  | none =>
    simp only
    have hw : IntKind.i64.wrap (t + size) = t + size := eH (by omega) (by omega)
    have hmk : (aU.mk (bJ.mk t (if (1125899906842624 : Int) < (wR (t + size)) then (1125899906842624 : Int) else (wR (t + size)))) []) = mkW size t := by
      unfold mkW
      simp only [wR, hw]
      congr 2
      rw [Int.min_def]; split <;> split <;> omega
    have hf : GC n g.1 (mkW size t) := ⟨.inl (by simp [mkW]), fun h => absurd rfl h⟩
    rw [hmk, EL hg hr (small _ hf) hf.2]
    by_cases hl : m.length = 1024
    · have : decide ((lN m) = (1024 : Int)) = true := decide_eq_true (by simp only [lN]; omega)
      rw [this, if_pos hl]
      exact ⟨fun m' h => (by cases h), fun _ => rfl⟩
    · have : decide ((lN m) = (1024 : Int)) = false := decide_eq_false (by simp only [lN]; omega)
      rw [this, if_neg hl]
      refine ⟨fun m' h => ?_, fun h => (by cases h)⟩
      cases h
      exact ⟨rfl, put _ hf⟩
  | some p =>
    simp only
    have hf := hm t p hgt
    rw [EL hg hr (small _ hf) hf.2]
    refine ⟨fun m' h => ?_, fun h => (by cases h)⟩
    cases h
    exact ⟨rfl, put _ hf⟩

theorem OB {size : Int} {g : List aE × List aB} (hg : eY g.2 = true) (hr : g.1.length ≤ 4398046510976) {n : Nat} (hn : n ≤ 900000) (hs0 : 0 ≤ size) (hs : size ≤ 1099511627776) (b : Bool) : ∀ (ts : List Int) (m : List (Int × aU)), BE n g.1 m → (∀ t ∈ ts, 0 ≤ t ∧ t < 1125899906842624) →
    ∃ x, rQ (fun st t => rnd (fun (q : Bool × List (Int × aU)) => mC g.1 g.2 size q.1 q.2 t) st) ts (.inl (b, m)) = some x ∧ (∀ m', dF (lI size g) m ts = some m' → x = .inl (b, m') ∧ BE n g.1 m') ∧ (dF (lI size g) m ts = none → ∃ q, q.1 = false ∧ x = .inr q)
  | [], m, hm, _ => ⟨_, rfl, fun m' h => by simp only [dF, Option.some.injEq] at h; subst h; exact ⟨rfl, hm⟩, fun h => by simp [dF] at h⟩
  | t :: ts, m, hm, ht => by
    obtain ⟨h0, h1⟩ := ht t (by simp)
    obtain ⟨a1, a2⟩ := aAA hg hr hn hm h0 h1 hs0 hs b
    simp only [rQ, dF]
    cases hst : lI size g m t with
    | none =>
      have e := a2 hst
      refine ⟨.inr (false, m), ?_, fun m' h => (by simp at h), fun _ => ⟨_, rfl, rfl⟩⟩
      simp only [rnd, e, Option.bind_some, Sum.isLeft_inr, Bool.false_eq_true, if_false]
    | some m1 =>
      obtain ⟨e, hm1⟩ := a1 m1 hst
      obtain ⟨x, e1, e2, e3⟩ := OB hg hr hn hs0 hs b ts m1 hm1 fun t' h' => ht t' (by simp [h'])
      refine ⟨x, ?_, e2, e3⟩
      simp only [rnd, e, Option.bind_some, Sum.isLeft_inl, if_true]
      exact e1

def mV (size hop frm front : Int) (f : List aB) : List Int := (zJ f).flatMap (mH size hop frm front)

theorem CK {size hop frm front : Int} (ok : OkH size hop frm front) (s : bJ) : ∀ t ∈ mH size hop frm front s, 0 ≤ t ∧ t < 1125899906842624 := by
  intro t ht
  unfold mH at ht
  have h1 := (WI (b := sU front s) ok.h0 (qW size hop frm s)).2 t ht
  obtain ⟨k, _, h2⟩ := (OW ok.h0 _).1 ht
  have h3 := (sD (n := s.From - size) ok.h0).1
  have h4 : iP hop (s.From - size) ≤ qW size hop frm s := Int.le_max_left _ _
  have h5 : sU front s ≤ 1125899906842624 := Int.min_le_right _ _
  omega

theorem OI {size hop frm front : Int} (ok : OkH size hop frm front) {g : List aE × List aB} (hg : eY g.2 = true) (hr : g.1.length ≤ 4398046510976) {n : Nat} (hn : n ≤ 900000) (b : Bool) : ∀ (ss : List bJ) (m : List (Int × aU)), BE n g.1 m → (∀ s ∈ ss, -1 ≤ s.From ∧ s.From < s.To ∧ s.To ≤ 1125899906842624) →
    ∃ x, rQ (fun st s => rnd (fun (q : Bool × List (Int × aU)) => nD g.1 g.2 size hop frm front q.1 q.2 s) st) ss (.inl (b, m)) = some x ∧ (∀ m', dF (lI size g) m (ss.flatMap (mH size hop frm front)) = some m' → x = .inl (b, m') ∧ BE n g.1 m') ∧ (dF (lI size g) m (ss.flatMap (mH size hop frm front)) = none → ∃ q, q.1 = false ∧ x = .inr q)
  | [], m, hm, _ => ⟨_, rfl, fun m' h => by simp only [List.flatMap_nil, dF, Option.some.injEq] at h; subst h; exact ⟨rfl, hm⟩, fun h => by simp [dF] at h⟩
  | s :: ss, m, hm, hs => by
    have hsp := hs s (by simp)
    obtain ⟨x, e1, e2, e3⟩ := OB hg hr hn (size := size) (by have := ok.s0; omega) ok.s1 b (mH size hop frm front s) m hm (CK ok s)
    have hl : nD g.1 g.2 size hop frm front b m s = (Sum.elim (fun q => some (.inl q)) (fun q => some (.inr q)) x : Option ((Bool × List (Int × aU)) ⊕ (Bool × List (Int × aU)))) := by
      unfold nD
      simp only [pL, Option.bind_some]
      rw [HF ok hsp.1 (by omega) e1]
      rfl
    simp only [rQ, List.flatMap_cons, EM]
    cases hst : dF (lI size g) m (mH size hop frm front s) with
    | none =>
      obtain ⟨q, hq, rfl⟩ := e3 hst
      refine ⟨.inr q, ?_, fun m' h => (by simp at h), fun _ => ⟨_, hq, rfl⟩⟩
      simp only [rnd, hl, Sum.elim_inr, Option.bind_some, Sum.isLeft_inr, Bool.false_eq_true, if_false]
    | some m1 =>
      obtain ⟨rfl, hm1⟩ := e2 m1 hst
      obtain ⟨x, f1, f2, f3⟩ := OI ok hg hr hn b ss m1 hm1 fun s' h' => hs s' (by simp [h'])
      refine ⟨x, ?_, f2, f3⟩
      simp only [rnd, hl, Sum.elim_inl, Option.bind_some, Sum.isLeft_inl, if_true]
      exact f1

theorem WG {size hop frm front : Int} (ok : OkH size hop frm front) {g : List aE × List aB} (hg : eY g.2 = true) (hr : g.1.length ≤ 4398046510976) {n : Nat} (hn : n ≤ 900000) {m : List (Int × aU)} (hm : BE n g.1 m) :
    ∃ x, sI m g.1 g.2 size hop frm front = some x ∧ (∀ m', dF (lI size g) m (mV size hop frm front g.2) = some m' → x = (true, m') ∧ BE n g.1 m') ∧ (dF (lI size g) m (mV size hop frm front g.2) = none → x.1 = false) := by
  obtain ⟨x, e1, e2, e3⟩ := OI ok hg hr hn false (zJ g.2) m hm (FM hg)
  unfold sI
  simp only [wY, Option.bind_some]
  rw [VA hg e1, Option.bind_some]
  unfold mV
  cases hst : dF (lI size g) m ((zJ g.2).flatMap (mH size hop frm front)) with
  | none =>
    obtain ⟨q, hq, rfl⟩ := e3 hst
    exact ⟨_, rfl, fun m' h => (by cases h), fun _ => hq⟩
  | some m1 =>
    obtain ⟨rfl, hm1⟩ := e2 m1 hst
    exact ⟨_, rfl, fun m' h => (by cases h; exact ⟨rfl, hm1⟩), fun h => (by cases h)⟩

end Go.Abs
namespace Go.Abs
open Go
theorem CL {hop n x : Int} (hh : 1 ≤ hop) (h0 : 0 ≤ x) (hx : ∃ k : Int, x = k * hop) (h : n < x) : iP hop n ≤ x := by
  unfold iP
  split
  · exact h0
  · obtain ⟨k, rfl⟩ := hx
    have hf := EC (n := n) hh
    have : n / hop < k := by
      rcases Int.lt_or_le (n / hop) k with h1 | h1
      · exact h1
      · have := Int.mul_le_mul_of_nonneg_right h1 (show 0 ≤ hop by omega)
        omega
    exact Int.mul_le_mul_of_nonneg_right (show n / hop + 1 ≤ k by omega) (by omega)

theorem RT {size hop frm : Int} {s : bJ} (hh : 1 ≤ hop) (hf : 0 ≤ frm) : 0 ≤ qW size hop frm s ∧ (∃ k : Int, qW size hop frm s = k * hop) ∧ s.From - size < qW size hop frm s ∧ frm ≤ qW size hop frm s ∧
    ∀ x : Int, 0 ≤ x → (∃ k : Int, x = k * hop) → s.From - size < x → frm ≤ x → qW size hop frm s ≤ x := by
  obtain ⟨a1, a2, _, _, a5⟩ := sD (n := s.From - size) hh
  obtain ⟨b1, b2, _, _, b5⟩ := sD (n := frm - 1) hh
  unfold qW
  refine ⟨by omega, ?_, by omega, by omega, fun x x0 xk x1 x2 => ?_⟩
  · rcases Int.le_total (iP hop (s.From - size)) (iP hop (frm - 1)) with h | h
    · rw [Int.max_eq_right h]; exact b5
    · rw [Int.max_eq_left h]; exact a5
  · have c1 := CL hh x0 xk x1
    have c2 := CL hh x0 xk (show frm - 1 < x by omega)
    omega

theorem FF {size hop frm front : Int} (ok : OkH size hop frm front) {s : bJ} {x : Int} : x ∈ mH size hop frm front s ↔ 0 ≤ x ∧ (∃ k : Int, x = k * hop) ∧ frm ≤ x ∧ x < front ∧ x < 1125899906842624 ∧ s.From - size < x ∧ x < s.To := by
  obtain ⟨f1, ⟨q, f2⟩, f3, f4, f5⟩ := RT (size := size) (s := s) ok.h0 ok.f0
  have hb : x < sU front s ↔ x < s.To ∧ x < front ∧ x < 1125899906842624 := by unfold sU; omega
  unfold mH
  rw [OW ok.h0]
  constructor
  · rintro ⟨k, h1, h2⟩
    have h3 := hb.1 h2
    have h4 : 0 ≤ (k : Int) * hop := Int.mul_nonneg (by omega) (by have := ok.h0; omega)
    refine ⟨by omega, ⟨q + k, ?_⟩, by omega, h3.2.1, h3.2.2, by omega, h3.1⟩
    rw [Int.add_mul]; omega
  · rintro ⟨h1, ⟨k, hk⟩, h2, h3, h4, h5, h6⟩
    have h7 := f5 x h1 ⟨k, hk⟩ h5 h2
    have h8 : q ≤ k := by
      rcases Int.lt_or_le k q with hlt | hle
      · have u := Int.mul_le_mul_of_nonneg_right (show k + 1 ≤ q by omega) (show 0 ≤ hop by have := ok.h0; omega)
        have u0 := ok.h0
        rw [Int.add_mul] at u
        omega
      · exact hle
    refine ⟨(k - q).toNat, ?_, hb.2 ⟨h6, h3, h4⟩⟩
    rw [Int.toNat_of_nonneg (by omega), Int.sub_mul]; omega

def GL (size hop : Int) (s : bJ) (frm front : Int) : List Int × Int :=
  if !uP size hop then ([], 2) else if !(mR frm && mR front) then ([], 13) else if s.From < -1 ∨ s.To ≤ s.From ∨ 1125899906842624 < s.To then ([], 14)
  else if 1024 < (mH size hop frm front s).length then ([], 7) else (mH size hop frm front s, 0)

theorem TM {size hop frm front : Int} (hm : uP size hop = true) (h1 : mR frm = true) (h2 : mR front = true) : OkH size hop frm front := by
  have a := DA hm; have b := BQ h1; have c := BQ h2
  exact ⟨a.1, a.2.1, a.2.2.1, a.2.2.2, b.1, b.2, c.1, c.2⟩

theorem LY {c0 : Int} {c1 : bJ} {c2 c3 c4 : Int} (a : List Int) (b : Int) : ∀ (ts out : List Int), out.length ≤ 1024 →
    ∃ x, rQ (fun st t => rnd (fun (s : (List Int) × Int × List Int) => lJ c0 c1 c2 c3 c4 s.1 s.2.1 s.2.2 t) st) ts (.inl (a, b, out)) = some x ∧ (if 1024 < out.length + ts.length then ∃ q, x = .inr ([], 7, q) else x = .inl (a, b, out ++ ts))
  | [], out, ho => ⟨_, rfl, by rw [if_neg (by simp; omega)]; simp⟩
  | t :: ts, out, ho => by
    by_cases hl : out.length = 1024
    · refine ⟨.inr ([], 7, out), ?_, by rw [if_pos (by simp only [List.length_cons]; omega)]; exact ⟨_, rfl⟩⟩
      have hb : lJ c0 c1 c2 c3 c4 a b out t = some (.inr ([], 7, out)) := by
        unfold lJ
        rw [decide_eq_true (by omega), cond_true]
      simp only [rQ, rnd, hb, Option.bind_some, Sum.isLeft_inr, Bool.false_eq_true, if_false]
    · obtain ⟨x, h1, h2⟩ := LY a b ts (out ++ [t]) (by simp; omega)
      refine ⟨x, ?_, ?_⟩
      · have hb : lJ c0 c1 c2 c3 c4 a b out t = some (.inl (a, b, out ++ [t])) := by
          unfold lJ
          rw [decide_eq_false (by omega), cond_false, aQ (by simp only [List.length_cons, List.length_nil]; omega)]
        simp only [rQ, rnd, hb, Option.bind_some, Sum.isLeft_inl, if_true]
        exact h1
      · have e : (out ++ [t]).length + ts.length = out.length + (t :: ts).length := by simp; omega
        rw [e] at h2
        simpa using h2

theorem YV (size hop : Int) (s : bJ) (frm front : Int) : sP size hop s frm front = some (GL size hop s frm front) := by
  unfold sP GL
  simp only [pV, mP, Option.bind_some]
  rw [show ((((decide ((1 : Int) ≤ size)) && (decide (size ≤ (1099511627776 : Int)))) && (decide ((1 : Int) ≤ hop))) && (decide (hop ≤ (1099511627776 : Int)))) = uP size hop from rfl, show ((decide ((0 : Int) ≤ frm)) && (decide (frm ≤ (1125899906842624 : Int)))) = mR frm from rfl, show ((decide ((0 : Int) ≤ front)) && (decide (front ≤ (1125899906842624 : Int)))) = mR front from rfl]
  cases hm : uP size hop with
  | false => rfl
  | true =>
    cases h1 : mR frm with
    | false => rfl
    | true =>
      cases h2 : mR front with
      | false => rfl
      | true =>
        simp only [Bool.not_true, cond_false, Bool.not_false, dG, cond_true, Option.bind_some, Bool.or_self, Bool.and_self, Bool.false_eq_true, if_false]
        by_cases hs : s.From < -1 ∨ s.To ≤ s.From ∨ 1125899906842624 < s.To
        · have : (((decide (s.From < (-1 : Int))) || (decide (s.To ≤ s.From))) || (decide ((1125899906842624 : Int) < s.To))) = true := by simp only [Bool.or_eq_true, decide_eq_true_eq]; omega
          rw [this, if_pos hs]; rfl
        · have : (((decide (s.From < (-1 : Int))) || (decide (s.To ≤ s.From))) || (decide ((1125899906842624 : Int) < s.To))) = false := by simp only [Bool.or_eq_false_iff, decide_eq_false_iff_not]; omega
          rw [this, if_neg hs, cond_false]
          have ok := TM hm h1 h2
          simp only [pL, Option.bind_some, uK]
          obtain ⟨x, e1, e2⟩ := LY (c0 := hop) (c1 := s) (c2 := size) (c3 := frm) (c4 := front) [] 0 (mH size hop frm front s) [] (by simp)
          rw [HF ok (by omega) (by omega) e1, Option.bind_some]
          simp only [List.length_nil, Nat.zero_add, List.nil_append] at e2
          by_cases hl : 1024 < (mH size hop frm front s).length
          · rw [if_pos hl] at e2 ⊢
            obtain ⟨q, rfl⟩ := e2
            rfl
          · rw [if_neg hl] at e2 ⊢
            subst e2
            rfl

end Go.Abs
namespace Go.Abs
open Go
abbrev G1 := List aE × List aB

def iW (size t : Int) : Int := min (t + size) 1125899906842624

def uD (size t : Int) (gs : List G1) : List dR := gs.filterMap fun g => if 0 < eM g.2 t (iW size t) then some ⟨g.1, eM g.2 t (iW size t)⟩ else none

def pJ (size hop frm front : Int) (gs : List G1) (m : List (Int × aU)) : Option (List (Int × aU)) := dF (fun m g => dF (lI size g) m (mV size hop frm front g.2)) m gs

def uB (size hop frm front : Int) (gs : List G1) : List Int := gs.flatMap fun g => mV size hop frm front g.2

def wQ (size hop frm front : Int) (gs : List G1) : List Int := (uB size hop frm front gs).foldl (fun c t => mY t c) []

def tM (c : List Int) (ts : List Int) : List Int := ts.foldl (fun c t => mY t c) c

theorem zP (c : List Int) (t : Int) (ts : List Int) : tM c (t :: ts) = tM (mY t c) ts := rfl

theorem RL (c a b : List Int) : tM c (a ++ b) = tM (tM c a) b := List.foldl_append ..

theorem FX {last : Int} : ∀ {ts c : List Int}, Inc last c → (∀ t ∈ ts, last < t ∧ t < 1125899906842624) → Inc last (tM c ts)
  | [], c, h, _ => h
  | t :: ts, c, h, ht => by
    rw [zP]
    exact FX (EI h (ht t (by simp)).1 (ht t (by simp)).2) fun x hx => ht x (by simp [hx])

theorem PX {x : Int} : ∀ {ts c : List Int}, x ∈ tM c ts ↔ x ∈ ts ∨ x ∈ c
  | [], c => by simp [tM]
  | t :: ts, c => by
    rw [zP, PX, KX]
    simp only [List.mem_cons]
    constructor
    · rintro (h | h | h)
      · exact .inl (.inr h)
      · exact .inl (.inl h)
      · exact .inr h
    · rintro ((h | h) | h)
      · exact .inr (.inl h)
      · exact .inl h
      · exact .inr (.inr h)

theorem HP {t : Int} : ∀ {ps : List Int}, ps.length ≤ (mY t ps).length
  | [] => by simp [mY]
  | p :: r => by
    unfold mY
    split
    · exact Nat.le_refl _
    · split
      · simp
      · simp only [List.length_cons]
        have := HP (t := t) (ps := r)
        omega

theorem CX : ∀ {ts c : List Int}, c.length ≤ (tM c ts).length
  | [], c => Nat.le_refl _
  | t :: ts, c => by
    rw [zP]
    exact Nat.le_trans HP CX

theorem IJ {size : Int} {g : G1} {last : Int} : ∀ {ts : List Int} {m : List (Int × aU)} {c : List Int}, Inc last c → (∀ t ∈ ts, last < t ∧ t < 1125899906842624) → (m.map (·.1)).Perm c → m.length ≤ 1024 →
    (∀ m', dF (lI size g) m ts = some m' → (m'.map (·.1)).Perm (tM c ts) ∧ m'.length ≤ 1024) ∧ (dF (lI size g) m ts = none → 1024 < (tM c ts).length)
  | [], m, c, _, _, hp, hl => ⟨fun m' h => by simp only [dF, Option.some.injEq] at h; subst h; exact ⟨hp, hl⟩, fun h => by simp [dF] at h⟩
  | t :: ts, m, c, hi, ht, hp, hl => by
    have ht0 := ht t (by simp)
    have hi' := EI hi ht0.1 ht0.2
    have rec1 := fun (m1 : List (Int × aU)) => IJ (size := size) (g := g) (last := last) (ts := ts) (m := m1) (c := mY t c) hi' (fun x hx => ht x (by simp [hx]))
    simp only [dF, zP]
    cases hg : fG m t with
    | none =>
      have hk : t ∉ m.map (·.1) := DY.1 hg
      have hk' : t ∉ c := fun h => hk (hp.mem_iff.2 h)
      have hw := HS hk'
      by_cases hf : m.length = 1024
      · have e : lI size g m t = none := by unfold lI; rw [hg]; simp [hf]
        rw [e]
        refine ⟨fun m' h => (by simp at h), fun _ => ?_⟩
        have h1 := hw.length_eq
        have h2 := hp.length_eq
        have h3 := CX (ts := ts) (c := mY t c)
        simp only [List.length_map, List.length_cons] at h1 h2
        omega
      · have e : lI size g m t = some (gR m t (iU g (mkW size t))) := by unfold lI; rw [hg]; simp [hf]
        rw [e]
        have hp' : ((gR m t (iU g (mkW size t))).map (·.1)).Perm (mY t c) := by
          rw [LG hk]
          exact (List.perm_append_comm.trans (List.Perm.cons _ hp)).trans hw.symm
        refine rec1 _ hp' ?_
        have h1 := congrArg List.length (LG (v := iU g (mkW size t)) hk)
        simp only [List.length_map, List.length_append, List.length_cons, List.length_nil] at h1
        omega
    | some p =>
      have e : lI size g m t = some (gR m t (iU g p)) := by unfold lI; rw [hg]
      rw [e]
      have hk : t ∈ m.map (·.1) := by
        refine Decidable.byContradiction fun h => ?_
        rw [DY.2 h] at hg; cases hg
      have hw : mY t c = c := HG hi (hp.mem_iff.1 hk)
      have hk2 := KT (v := iU g p) hk
      refine rec1 _ (by rw [hk2, hw]; exact hp) ?_
      have h1 := congrArg List.length hk2
      simp only [List.length_map] at h1
      omega

theorem yN {size hop frm front : Int} (ok : OkH size hop frm front) (f : List aB) : ∀ t ∈ mV size hop frm front f, -1 < t ∧ t < 1125899906842624 := by
  intro t ht
  obtain ⟨s, _, hs⟩ := List.mem_flatMap.1 ht
  have := CK ok s t hs
  omega

theorem IY {size hop frm front : Int} (ok : OkH size hop frm front) : ∀ {gs : List G1} {m : List (Int × aU)} {c : List Int}, Inc (-1) c → (m.map (·.1)).Perm c → m.length ≤ 1024 →
    (∀ m', pJ size hop frm front gs m = some m' → (m'.map (·.1)).Perm (tM c (uB size hop frm front gs)) ∧ m'.length ≤ 1024) ∧ (pJ size hop frm front gs m = none → 1024 < (tM c (uB size hop frm front gs)).length)
  | [], m, c, _, hp, hl => ⟨fun m' h => by simp only [pJ, dF, Option.some.injEq] at h; subst h; exact ⟨hp, hl⟩, fun h => by simp [pJ, dF] at h⟩
  | g :: gs, m, c, hi, hp, hl => by
    obtain ⟨k1, k2⟩ := IJ (size := size) (g := g) hi (yN ok g.2) hp hl
    have e : uB size hop frm front (g :: gs) = mV size hop frm front g.2 ++ uB size hop frm front gs := rfl
    rw [e, RL]
    simp only [pJ, dF]
    cases hs : dF (lI size g) m (mV size hop frm front g.2) with
    | none =>
      refine ⟨fun m' h => (by simp at h), fun _ => ?_⟩
      have := k2 hs
      have := CX (ts := uB size hop frm front gs) (c := tM c (mV size hop frm front g.2))
      omega
    | some m1 =>
      obtain ⟨p1, p2⟩ := k1 m1 hs
      exact IY ok (gs := gs) (m := m1) (FX hi (yN ok g.2)) p1 p2

theorem LD {size : Int} {g : G1} (x : Int) : ∀ {ts : List Int} {m m' : List (Int × aU)}, dF (lI size g) m ts = some m' → fG m' x = if x ∈ ts then some (iU g ((fG m x).getD (mkW size x))) else fG m x
  | [], m, m', h => by simp only [dF, Option.some.injEq] at h; subst h; simp
  | t :: ts, m, m', h => by
    simp only [dF] at h
    obtain ⟨m1, h1, h2⟩ := aV h
    have e : ∃ p, m1 = gR m t (iU g p) ∧ p = (fG m t).getD (mkW size t) := by
      unfold lI at h1
      cases hg : fG m t with
      | none =>
        rw [hg] at h1
        simp only at h1
        split at h1
        · cases h1
        · cases h1; exact ⟨_, rfl, rfl⟩
      | some p => rw [hg] at h1; cases h1; exact ⟨_, rfl, rfl⟩
    obtain ⟨p, rfl, rfl⟩ := e
    rw [LD x h2, DV]
    by_cases hx : x = t
    · subst hx
      simp only [if_true, List.mem_cons, true_or, Option.getD_some, OH, ite_self]
    · simp only [hx, if_false, List.mem_cons, false_or]

def vT (size hop frm front x : Int) (o : Option aU) (gs : List G1) : Option aU :=
  gs.foldl (fun o g => if x ∈ mV size hop frm front g.2 then some (iU g (o.getD (mkW size x))) else o) o

theorem KH {size hop frm front : Int} (x : Int) : ∀ {gs : List G1} {m m' : List (Int × aU)}, pJ size hop frm front gs m = some m' → fG m' x = vT size hop frm front x (fG m x) gs
  | [], m, m', h => by simp only [pJ, dF, Option.some.injEq] at h; subst h; rfl
  | g :: gs, m, m', h => by
    simp only [pJ, dF] at h
    obtain ⟨m1, h1, h2⟩ := aV h
    have := KH x (gs := gs) h2
    rw [this, LD x h1]
    rfl

def rT (size hop frm front x : Int) (gs : List G1) : List dR := gs.filterMap fun g => if x ∈ mV size hop frm front g.2 then some ⟨g.1, eM g.2 x (iW size x)⟩ else none

theorem CI {size hop frm front x : Int} : ∀ {gs : List G1} {rs : List dR}, rS gs → rs ≠ [] → (∀ g ∈ gs, (qC rs).Row ≠ g.1) → vT size hop frm front x (some ⟨⟨x, iW size x⟩, rs⟩) gs = some ⟨⟨x, iW size x⟩, rs ++ rT size hop frm front x gs⟩
  | [], rs, _, _, _ => by simp [vT, rT]
  | g :: gs, rs, hs, hn, hl => by
    have hs' := List.pairwise_cons.1 hs
    have hg := hl g (by simp)
    simp only [vT, List.foldl_cons, Option.getD_some]
    by_cases hx : x ∈ mV size hop frm front g.2
    · rw [if_pos hx]
      have e : iU g ⟨⟨x, iW size x⟩, rs⟩ = ⟨⟨x, iW size x⟩, rs ++ [⟨g.1, eM g.2 x (iW size x)⟩]⟩ := by
        unfold iU
        rw [if_pos (.inr hg)]
      rw [e]
      have := CI (size := size) (hop := hop) (frm := frm) (front := front) (x := x) (gs := gs) (rs := rs ++ [⟨g.1, eM g.2 x (iW size x)⟩]) hs'.2 (by simp) (fun q hq => by
        rw [vD]
        intro h
        have := hs'.1 q hq
        unfold ltG at this
        rw [show g.1 = q.1 from h] at this
        exact qQ this)
      unfold vT at this
      rw [this]
      simp [rT, hx]
    · rw [if_neg hx]
      have := CI (size := size) (hop := hop) (frm := frm) (front := front) (x := x) (gs := gs) (rs := rs) hs'.2 hn (fun q hq => hl q (by simp [hq]))
      unfold vT at this
      rw [this]
      simp [rT, hx]

theorem II {size hop frm front x : Int} : ∀ {gs : List G1}, rS gs → vT size hop frm front x none gs = if rT size hop frm front x gs = [] then none else some ⟨⟨x, iW size x⟩, rT size hop frm front x gs⟩
  | [], _ => by simp [vT, rT]
  | g :: gs, hs => by
    have hs' := List.pairwise_cons.1 hs
    simp only [vT, List.foldl_cons, Option.getD_none]
    by_cases hx : x ∈ mV size hop frm front g.2
    · rw [if_pos hx]
      have e : iU g (mkW size x) = ⟨⟨x, iW size x⟩, [⟨g.1, eM g.2 x (iW size x)⟩]⟩ := by
        unfold iU mkW
        rw [if_pos (.inl rfl)]; rfl
      rw [e]
      have := CI (size := size) (hop := hop) (frm := frm) (front := front) (x := x) (gs := gs) (rs := [⟨g.1, eM g.2 x (iW size x)⟩]) hs'.2 (by simp) (fun q hq h => by
        have h1 := hs'.1 q hq
        unfold ltG at h1
        have h2 : g.1 = q.1 := h
        rw [h2] at h1
        exact qQ h1)
      unfold vT at this
      rw [this]
      simp [rT, hx]
    · rw [if_neg hx]
      have := II (size := size) (hop := hop) (frm := frm) (front := front) (x := x) (gs := gs) hs'.2
      unfold vT at this
      rw [this]
      have e : rT size hop frm front x (g :: gs) = rT size hop frm front x gs := by simp [rT, hx]
      rw [e]

theorem xV {size hop frm front : Int} (ok : OkH size hop frm front) {f : List aB} (hf : eY f = true) (hv : ∀ t, 0 ≤ val f t) {x : Int} : x ∈ mV size hop frm front f ↔ (0 ≤ x ∧ (∃ k : Int, x = k * hop) ∧ frm ≤ x ∧ x < front ∧ x < 1125899906842624) ∧ 0 < eM f x (iW size x) := by
  have hs0 := ok.s0
  unfold mV
  rw [List.mem_flatMap]
  constructor
  · rintro ⟨s, h1, h2⟩
    obtain ⟨a1, a2, a3, a4, a5, a6, a7⟩ := (FF ok).1 h2
    have hsp := FM hf s h1
    refine ⟨⟨a1, a2, a3, a4, a5⟩, (FH hf hv (by unfold iW; omega)).2 ⟨max x s.From, by omega, by unfold iW; omega, ?_⟩⟩
    exact (HI hf hv (by omega)).1 ⟨s, h1, by omega, by omega⟩
  · rintro ⟨⟨a1, a2, a3, a4, a5⟩, h⟩
    obtain ⟨y, y1, y2, y3⟩ := (FH hf hv (by unfold iW; omega)).1 h
    unfold iW at y2
    obtain ⟨s, h1, h2, h3⟩ := (HI hf hv (by omega)).2 y3
    exact ⟨s, h1, (FF ok).2 ⟨a1, a2, a3, a4, a5, by omega, by omega⟩⟩

theorem filterMap_eq {α β : Type} {f h : α → Option β} : ∀ {l : List α}, (∀ a ∈ l, f a = h a) → l.filterMap f = l.filterMap h
  | [], _ => rfl
  | a :: l, H => by
    rw [List.filterMap_cons, List.filterMap_cons, H a (by simp), filterMap_eq fun b hb => H b (by simp [hb])]

theorem XR {size hop frm front x : Int} (ok : OkH size hop frm front) (hx : 0 ≤ x ∧ (∃ k : Int, x = k * hop) ∧ frm ≤ x ∧ x < front ∧ x < 1125899906842624) {gs : List G1} (hg : ∀ g ∈ gs, eY g.2 = true ∧ ∀ t, 0 ≤ val g.2 t) : rT size hop frm front x gs = uD size x gs := by
  unfold rT uD
  refine filterMap_eq fun g h => ?_
  have := xV ok (hg g h).1 (hg g h).2 (x := x)
  by_cases hb : 0 < eM g.2 x (iW size x)
  · rw [if_pos (this.2 ⟨hx, hb⟩), if_pos hb]
  · rw [if_neg (fun q => hb (this.1 q).2), if_neg hb]

def EA (size hop frm front : Int) (gs : List G1) : List aU := (wQ size hop frm front gs).map fun t => ⟨⟨t, iW size t⟩, uD size t gs⟩

theorem NQ {size hop frm front x : Int} {gs : List G1} : x ∈ wQ size hop frm front gs ↔ ∃ g ∈ gs, x ∈ mV size hop frm front g.2 := by
  have : wQ size hop frm front gs = tM [] (uB size hop frm front gs) := rfl
  rw [this, PX]
  simp [uB, List.mem_flatMap]

theorem QF {size hop frm front : Int} (ok : OkH size hop frm front) (gs : List G1) : Inc (-1) (wQ size hop frm front gs) := by
  refine FX (ts := uB size hop frm front gs) (c := []) trivial fun t ht => ?_
  obtain ⟨g, _, h⟩ := List.mem_flatMap.1 ht
  exact yN ok g.2 t h

theorem ZE {size hop frm front : Int} (ok : OkH size hop frm front) {gs : List G1} (hs : rS gs) (hg : ∀ g ∈ gs, eY g.2 = true ∧ ∀ t, 0 ≤ val g.2 t) :
    (∀ m', pJ size hop frm front gs [] = some m' → (wQ size hop frm front gs).length ≤ 1024 ∧ (m'.map (·.1)).Perm (wQ size hop frm front gs) ∧ ∀ x ∈ wQ size hop frm front gs, fG m' x = some ⟨⟨x, iW size x⟩, uD size x gs⟩) ∧
    (pJ size hop frm front gs [] = none → 1024 < (wQ size hop frm front gs).length) := by
  obtain ⟨k1, k2⟩ := IY ok (gs := gs) (m := []) (c := []) trivial (List.Perm.refl _) (by simp)
  refine ⟨fun m' h => ?_, k2⟩
  obtain ⟨p1, p2⟩ := k1 m' h
  refine ⟨?_, p1, fun x hx => ?_⟩
  · have := p1.length_eq
    simp only [List.length_map] at this
    show (tM [] (uB size hop frm front gs)).length ≤ 1024
    omega
  · rw [KH x h]
    obtain ⟨g, hgm, hxg⟩ := NQ.1 hx
    have hxx := (xV ok (hg g hgm).1 (hg g hgm).2).1 hxg
    have e : fG ([] : List (Int × aU)) x = none := rfl
    rw [e, II hs, ← XR ok hxx.1 hg, if_neg]
    intro hc
    have : (⟨g.1, eM g.2 x (iW size x)⟩ : dR) ∈ rT size hop frm front x gs := List.mem_filterMap.2 ⟨g, hgm, by rw [if_pos hxg]⟩
    rw [hc] at this
    simp at this

end Go.Abs
namespace Go.Abs
open Go
def rL (l : List aL) (size hop frm front : Int) : List aU × Int :=
  if !(uP size hop && lQ l) then ([], 2) else if !sW l then ([], 20) else if !(mR frm && mR front) then ([], 13)
  else if 1024 < (wQ size hop frm front (groups l)).length then ([], 7) else (EA size hop frm front (groups l), 0)

def aB8 (n : Nat) (m : List (Int × aU)) : Prop := ∀ t p, fG m t = some p → p.Rows.length ≤ n ∧ (p.Rows ≠ [] → (qC p.Rows).Row.length ≤ 4398046510976)

theorem IU {size hop frm front : Int} (ok : OkH size hop frm front) (a : List aU) (b : Int) : ∀ (gs : List G1) (n : Nat) (m : List (Int × aU)), (∀ g ∈ gs, eY g.2 = true ∧ g.1.length ≤ 4398046510976) → n + gs.length ≤ 900000 → aB8 n m →
    ∃ x, itG (fun st r f => rnd (fun (q : List aU × Int × List (Int × aU)) => lX size hop frm front q.1 q.2.1 q.2.2 r f) st) gs (.inl (a, b, m)) = some x ∧ (∀ m', pJ size hop frm front gs m = some m' → x = .inl (a, b, m')) ∧ (pJ size hop frm front gs m = none → ∃ q, x = .inr ([], 7, q))
  | [], n, m, _, _, _ => ⟨_, rfl, fun m' h => by simp only [pJ, dF, Option.some.injEq] at h; subst h; rfl, fun h => by simp [pJ, dF] at h⟩
  | g :: gs, n, m, hg, hn, hm => by
    obtain ⟨h1, h2⟩ := hg g (by simp)
    simp only [List.length_cons] at hn
    obtain ⟨y, e1, e2, e3⟩ := WG ok (g := g) h1 h2 (n := n) (by omega) (m := m) (fun t p h => ⟨.inl (hm t p h).1, (hm t p h).2⟩)
    simp only [itG, pJ, dF]
    cases hs : dF (lI size g) m (mV size hop frm front g.2) with
    | none =>
      have e4 := e3 hs
      refine ⟨.inr ([], 7, y.2), ?_, fun m' h => (by simp at h), fun _ => ⟨_, rfl⟩⟩
      have hb : lX size hop frm front a b m g.1 g.2 = some (.inr ([], 7, y.2)) := by
        unfold lX
        rw [e1, Option.bind_some, e4]; rfl
      simp only [rnd, hb, Option.bind_some, Sum.isLeft_inr, Bool.false_eq_true, if_false]
    | some m1 =>
      obtain ⟨rfl, hf⟩ := e2 m1 hs
      have hm1 : aB8 (n + 1) m1 := fun t p h => by
        obtain ⟨q1, q2⟩ := hf t p h
        refine ⟨?_, q2⟩
        rcases q1 with q | ⟨_, _, q⟩ <;> omega
      obtain ⟨x, f1, f2, f3⟩ := IU ok a b gs (n + 1) m1 (fun q hq => hg q (by simp [hq])) (by omega) hm1
      refine ⟨x, ?_, f2, f3⟩
      have hb : lX size hop frm front a b m g.1 g.2 = some (.inl (a, b, m1)) := by
        unfold lX
        rw [e1, Option.bind_some]; rfl
      simp only [rnd, hb, Option.bind_some, Sum.isLeft_inl, if_true]
      exact f1

theorem HV : ∀ (q s : List Int), s.length + q.length ≤ 100000 → dF pK s q = some (s ++ q)
  | [], s, _ => by simp [dF]
  | t :: q, s, h => by
    simp only [List.length_cons] at h
    have e : pK s t = some (s ++ [t]) := by
      unfold pK
      rw [aQ (by simp only [List.length_cons, List.length_nil]; omega)]
    simp only [dF, e, Option.bind_some]
    rw [HV q (s ++ [t]) (by simp; omega)]
    simp

theorem aCs {m : List (Int × aU)} {B : List Int} {mk : Int → aU} (hp : (m.map (·.1)).Perm B) (hs : B.Pairwise (· ≤ ·)) (hl : B.length ≤ 1024) (hg : ∀ x ∈ B, fG m x = some (mk x)) : sQ m = some (B.map mk, 0) := by
  have hml : m.length = B.length := by simpa using hp.length_eq
  unfold sQ
  rw [aQ (by simp only [lN]; omega)]
  refine LA fun q hq => ?_
  have hqB : q.Perm B := hq.trans hp
  have hql := hqB.length_eq
  rw [HV q [] (by simp only [List.length_nil]; omega), Option.bind_some, List.nil_append]
  unfold zD
  rw [aBD (by omega) hqB.symm hs, Option.bind_some, aQ (by simp only [lN]; omega)]
  have key := BC (l := B) (body := fun s : List aU × Int => pU m B (lN B) s.1 s.2) (fun (s : List aU) i => (s, i)) (fun s r => s ++ r.map mk)
    (fun s r => s.length + r.length ≤ 100000 ∧ ∀ x ∈ r, x ∈ B) [] ?_ ?_ ⟨by simp only [List.length_nil]; omega, fun x hx => hx⟩
  · rw [key]
    simp
  · rintro i x r s hx ⟨h1, h2⟩
    left
    simp only [List.length_cons] at h1
    obtain ⟨d1, d2, d3, d4⟩ := idx hx (by omega)
    refine ⟨s ++ [mk x], ?_, ⟨by simp; omega, fun y hy => h2 y (by simp [hy])⟩, by simp⟩
    simp only [pU, lN, gD, wR, d1, cond_true, aQ d2, d3, d4, hg x (h2 x (by simp))]
    rw [aQ (by simp only [List.length_cons, List.length_nil]; omega)]
  · rintro s _
    simp only [pU, lN, lY, cond_false]
    simp

theorem AF {l : List aL} (hl : okL l) (size hop frm front : Int) : oX l size hop frm front = some (rL l size hop frm front) := by
  unfold oX rL
  simp only [pV, mP, Option.bind_some]
  rw [show ((((decide ((1 : Int) ≤ size)) && (decide (size ≤ (1099511627776 : Int)))) && (decide ((1 : Int) ≤ hop))) && (decide (hop ≤ (1099511627776 : Int)))) = uP size hop from rfl, show ((decide ((0 : Int) ≤ frm)) && (decide (frm ≤ (1125899906842624 : Int)))) = mR frm from rfl, show ((decide ((0 : Int) ≤ front)) && (decide (front ≤ (1125899906842624 : Int)))) = mR front from rfl]
  rw [KA hl, LW hl]
  cases hm : uP size hop with
  | false => rfl
  | true =>
    cases he : lQ l with
    | false => rfl
    | true =>
      simp only [Bool.not_true, Bool.not_false, dG, cond_true, Option.bind_some, Bool.or_self, cond_false, Bool.and_self, Bool.false_eq_true, if_false]
      cases ht : sW l with
      | false => rfl
      | true =>
        simp only [Bool.not_true, cond_false, Bool.false_eq_true, if_false]
        cases h1 : mR frm with
        | false => rfl
        | true =>
          cases h2 : mR front with
          | false => rfl
          | true =>
            simp only [Bool.not_true, Bool.not_false, cond_true, Option.bind_some, Bool.or_self, cond_false, Bool.and_self, Bool.false_eq_true, if_false]
            have ok := TM hm h1 h2
            obtain ⟨e1, e2, e3⟩ := pQ he
            have hn := HR l
            have hv : ∀ g ∈ groups l, eY g.2 = true ∧ ∀ t, 0 ≤ val g.2 t := fun g hg => by
              refine ⟨(e2 g hg).2, fun t => ?_⟩
              have := (vJ.1 ht).2 g.1 t
              rwa [← pY e3, wJ e3 hg] at this
            have hrow : ∀ g ∈ groups l, eY g.2 = true ∧ g.1.length ≤ 4398046510976 := fun g hg => ⟨(e2 g hg).2, zV hl hg⟩
            unfold zF
            simp only [uL, Option.bind_some]
            obtain ⟨x, f1, f2, f3⟩ := IU ok [] 0 (groups l) 0 [] hrow (by omega) (fun t p h => by simp [fG] at h)
            rw [UJ hl (s' := x) (by rw [he]; exact f1), Option.bind_some]
            obtain ⟨k1, k2⟩ := ZE ok e3 hv
            cases hs : pJ size hop frm front (groups l) [] with
            | none =>
              obtain ⟨q, rfl⟩ := f3 hs
              rw [if_pos (k2 hs)]; rfl
            | some m1 =>
              obtain rfl := f2 m1 hs
              obtain ⟨p1, p2, p3⟩ := k1 m1 hs
              rw [if_neg (by omega)]
              simp only [Sum.elim_inl]
              exact aCs p2 (aA5 (QF ok _)) p1 p3

end Go.Abs
namespace Go.Abs
open Go
theorem UA (size t : Int) (g : G1) (gs : List G1) : uD size t (g :: gs) = (if 0 < eM g.2 t (iW size t) then [⟨g.1, eM g.2 t (iW size t)⟩] else []) ++ uD size t gs := by
  unfold uD
  by_cases h : 0 < eM g.2 t (iW size t) <;> simp [h]

end Go.Abs
namespace Go.Abs
open Go
theorem aBA {f : List aB} {t : Int} (hf : eY f = true) (h0 : 0 ≤ t) (ht : t < 1125899906842624) (h : (rest f t).2 = 0) : (rest f t).1 = vS t f := by
  unfold rest at h ⊢
  rw [if_pos hf, if_neg (by omega), if_neg (by omega)] at h ⊢
  unfold told at h ⊢
  split at h
  · rename_i c; rw [if_pos c]
  · simp at h

theorem oS {l : List aL} (h : lQ l = true) (r : List aE) : look (groups l) r = kD l r := pY (pQ h).2.2 r

theorem aAH {by1 : List aB → List aB × Int} {l : List aL} (hb : ∀ f, eY f = true → (by1 f).2 = 0 → eY (by1 f).1 = true) (h : (uO by1 l).2 = 0) : lQ (uO by1 l).1 = true := by
  obtain ⟨h1, h2, h3, h4⟩ := AS h
  obtain ⟨_, g1, g2⟩ := pQ h1
  rw [h3] at h4 ⊢
  refine YO (BY g2) (fun g hg => ?_) h4
  obtain ⟨q, hq, rfl⟩ := List.mem_map.1 hg
  exact ⟨(g1 q hq).1, hb _ (g1 q hq).2 (h2 q hq)⟩

theorem aBx {f : List aB} (h : (told f).2 = 0) : eY (told f).1 = true := by
  unfold told at h ⊢
  split at h
  · rename_i c; rw [if_pos c]; exact c
  · simp at h

theorem ZS {f : List aB} {t : Int} (hf : eY f = true) (h : (rest f t).2 = 0) : eY (rest f t).1 = true := by
  unfold rest at h ⊢
  rw [if_pos hf] at h ⊢
  split
  · exact KG
  · rename_i c
    rw [if_neg c] at h
    split
    · exact hf
    · rename_i c2; rw [if_neg c2] at h; exact aBx h

theorem LX {l : List aL} {t : Int} (h : (oQ l t).2 = 0) : lQ (oQ l t).1 = true := aAH (fun _ a b => ZS a b) h

theorem FK {l : List aL} {t : Int} (h0 : 0 ≤ t) (ht : t < 1125899906842624) (h : (oQ l t).2 = 0) (r : List aE) : kD (oQ l t).1 r = vS t (kD l r) := by
  have hm := (AS h).1
  have h1 := XP (by1 := fun f => rest f t) (by rw [ND]) h r
  have h2 := aAJ (by1 := fun f => rest f t) (by rw [ND]) h r
  rw [oS hm] at h1 h2
  have := oS (LX h) r
  unfold oQ at this ⊢
  rw [← this, h1, aBA (xZ hm r) h0 ht h2]

end Go.Abs
namespace Go.Abs
open Go
theorem IZ {t : Int} : ∀ {f : List aB}, ∀ j ∈ jM t f, j.At < t
  | [], j, h => by simp [jM] at h
  | k :: f, j, h => by
    unfold jM at h
    split at h
    · simp at h
    · rcases List.mem_cons.1 h with rfl | h
      · omega
      · exact IZ j h

theorem LL {gs : List (List aE × List aB)} (hs : rS gs) (r : List aE) : look (wM gs) r = look gs r := by
  rw [← vV hs, LV hs]

theorem aAC {a b t : Int} (ha : t ≤ a) (f : List aB) : f.filter (inW a b) = (aft t f).filter (inW a b) := by
  conv => lhs; rw [← wN t f]
  rw [List.filter_append]
  have : (jM t f).filter (inW a b) = [] := List.filter_eq_nil_iff.2 fun j hj => by
    have := IZ j hj
    simp [inW]; omega
  rw [this, List.nil_append]

theorem VT {a b t : Int} (h0 : 0 ≤ t) (ha : t ≤ a) (f : List aB) : (vS t f).filter (inW a b) = f.filter (inW a b) := by
  rw [aAC ha f]
  unfold vS
  rw [List.filter_append]
  have : (if pP (jM t f) = 0 then [] else [(⟨-1, pP (jM t f)⟩ : aB)]).filter (inW a b) = [] := by
    split
    · rfl
    · have : inW a b ⟨-1, pP (jM t f)⟩ = false := by
        cases hq : inW a b ⟨-1, pP (jM t f)⟩ with
        | false => rfl
        | true => simp only [inW, Bool.and_eq_true, decide_eq_true_eq] at hq; omega
      simp [this]
  rw [this, List.nil_append]

end Go.Abs
namespace Go.Abs
open Go
def l28 : List aL := [⟨[IF], 3, 1⟩, ⟨[IF], 7, -1⟩]

theorem aB5 : okL l28 := ⟨by decide, by decide⟩

theorem aB2 : oD 10 5 12 = (5, 0) := by decide +kernel

theorem ZJ : GL 10 5 ⟨3, 7⟩ 0 100 = ([0, 5], 0) := by decide +kernel

theorem aA3 : rL l28 10 5 0 100 = ([⟨⟨0, 10⟩, [⟨[IF], 1⟩]⟩, ⟨⟨5, 15⟩, [⟨[IF], 1⟩]⟩], 0) := by decide +kernel

theorem uW : oA = some true := by
  unfold oA
  have h1 := AF aB5 10 5 0 100
  rw [aA3] at h1
  simp only [l28, IF] at h1
  rw [SF, aB2, Option.bind_some, YV, ZJ, Option.bind_some, h1, Option.bind_some, aQ (fun _ => by decide), aQ (fun _ => by decide), aQ (fun _ => by decide)]
  rfl

theorem WW {gs : List G1} (hg : ∀ g ∈ gs, eY g.2 = true ∧ g.1.length ≤ 4398046510976) (hn : gs.length ≤ 1000000) (size t : Int) : okC (uD size t gs) := by
  refine ⟨by have : (uD size t gs).length ≤ gs.length := List.length_filterMap_le ..; omega, fun c hc => ?_⟩
  obtain ⟨g, h1, h2⟩ := List.mem_filterMap.1 hc
  split at h2
  · simp only [Option.some.injEq] at h2; subst h2
    have := (hg g h1).2; simp only; omega
  · cases h2

theorem RG {l : List aL} (hl : okL l) (size hop frm front : Int) : (rL l size hop frm front).1.length ≤ 1024 ∧ ∀ p ∈ (rL l size hop frm front).1, okC p.Rows := by
  unfold rL
  cases hm : uP size hop && lQ l with
  | false => simp
  | true =>
    have he : lQ l = true := (Bool.and_eq_true .. |>.mp hm).2
    obtain ⟨g1, g2⟩ := TX hl he
    simp only [Bool.not_true, Bool.false_eq_true, if_false]
    split
    · simp
    · split
      · simp
      · split
        · simp
        · rename_i h
          refine ⟨by simp only [EA, List.length_map]; omega, fun p hp => ?_⟩
          obtain ⟨t, _, rfl⟩ := List.mem_map.1 hp
          exact WW g1 (by omega) _ _

theorem FI (a b : Int) : eM [] a b = 0 := rfl

def byH (a b : Int) (f : List aB) : List aB × Int := (if 0 < eM f a b then [⟨0, eM f a b⟩] else [], 0)

theorem FU (size t : Int) : ∀ gs : List G1, uD size t gs = (wM (wF (byH t (iW size t)) gs)).map fun g => (⟨g.1, (g.2.map aB.Net).sum⟩ : dR)
  | [] => rfl
  | g :: gs => by
    rw [UA, FU size t gs]
    have e : wF (byH t (iW size t)) (g :: gs) = (g.1, (byH t (iW size t) g.2).1) :: wF (byH t (iW size t)) gs := rfl
    rw [e]
    unfold wM byH
    by_cases h : 0 < eM g.2 t (iW size t)
    · simp [h]
    · simp [h]

theorem XE {l m : List aL} {size t : Int} (hl : lQ l = true) (hm : lQ m = true) (h : ∀ r, eM (kD l r) t (iW size t) = eM (kD m r) t (iW size t)) : uD size t (groups l) = uD size t (groups m) := by
  have sl := (pQ hl).2.2
  have sm := (pQ hm).2.2
  have s1 := BY (by1 := byH t (iW size t)) sl
  have s2 := BY (by1 := byH t (iW size t)) sm
  have hn : (byH t (iW size t) []).1 = [] := by unfold byH; rw [FI]; rfl
  rw [FU, FU, RZ (gs := wM (wF (byH t (iW size t)) (groups l))) (hs := wM (wF (byH t (iW size t)) (groups m))) (s1.filter _) (s2.filter _) (CN _) (CN _) fun r => ?_]
  rw [LL s1, LL s2, zO (by1 := byH t (iW size t)) hn, zO (by1 := byH t (iW size t)) hn, oS hl, oS hm]
  unfold byH
  rw [h r]

theorem DI {l : List aL} (hl : lQ l = true) (ht : sW l = true) {size hop frm front : Int} (ok : OkH size hop frm front) {x : Int} :
    x ∈ wQ size hop frm front (groups l) ↔ (0 ≤ x ∧ (∃ k : Int, x = k * hop) ∧ frm ≤ x ∧ x < front ∧ x < 1125899906842624) ∧ ∃ r, 0 < eM (kD l r) x (iW size x) := by
  rw [NQ]
  obtain ⟨_, h2, h3⟩ := pQ hl
  have hv : ∀ g ∈ groups l, eY g.2 = true ∧ ∀ t, 0 ≤ val g.2 t := fun g hg => by
    refine ⟨(h2 g hg).2, fun t => ?_⟩
    have := (vJ.1 ht).2 g.1 t
    rwa [← pY h3, wJ h3 hg] at this
  constructor
  · rintro ⟨g, hg, hx⟩
    obtain ⟨a, b⟩ := (xV ok (hv g hg).1 (hv g hg).2).1 hx
    refine ⟨a, g.1, ?_⟩
    rwa [← pY h3, wJ h3 hg]
  · rintro ⟨a, r, hb⟩
    rw [← oS hl] at hb
    rcases yE (groups l) r with ⟨h4, _⟩ | ⟨g, hg, _, h4⟩
    · rw [h4, FI] at hb; omega
    · rw [h4] at hb
      exact ⟨g, hg, (xV ok (hv g hg).1 (hv g hg).2).2 ⟨a, hb⟩⟩

theorem LB {size hop frm front : Int} (ok : OkH size hop frm front) (gs : List G1) : (wQ size hop frm front gs).Pairwise (· < ·) := GI (QF ok gs)

theorem OU {f : List aB} {t a b : Int} (hf : eY f = true) (h0 : 0 ≤ t) (ha : t ≤ a) : eM (vS t f) a b = eM f a b := by
  unfold eM wC
  rw [VT h0 (show t ≤ a + 1 by omega), LP hf a (by omega)]
  congr 2
  omega

theorem TH {l : List aL} {t : Int} (hl : lQ l = true) (ht : sW l = true) (h0 : 0 ≤ t) (h1 : t < 1125899906842624) (h : (oQ l t).2 = 0) : lQ (oQ l t).1 = true ∧ sW (oQ l t).1 = true := by
  have mr := LX h
  refine ⟨mr, vJ.2 ⟨mr, fun r => ?_⟩⟩
  rw [FK h0 h1 h]
  refine WV (aAb (xZ hl r) (by omega)) fun s s1 s2 => ?_
  rw [LP (xZ hl r) s (by omega)]
  exact (vJ.1 ht).2 r _

theorem RO {l : List aL} {size hop frm front : Int} (hl : lQ l = true) (tl : sW l = true) (h0 : 0 ≤ frm) (h1 : frm < 1125899906842624) (h : (oQ l frm).2 = 0) : rL (oQ l frm).1 size hop frm front = rL l size hop frm front := by
  obtain ⟨mr, tr⟩ := TH hl tl h0 h1 h
  unfold rL
  rw [mr, tr, hl, tl]
  cases hm : uP size hop with
  | false => rfl
  | true =>
    cases hf : mR frm && mR front with
    | false => rfl
    | true =>
      simp only [Bool.and_eq_true] at hf
      have ok := TM hm hf.1 hf.2
      have same : ∀ x, frm ≤ x → ∀ r, eM (kD (oQ l frm).1 r) x (iW size x) = eM (kD l r) x (iW size x) := fun x hx r => by
        rw [FK h0 h1 h, OU (xZ hl r) h0 hx]
      have hB : wQ size hop frm front (groups (oQ l frm).1) = wQ size hop frm front (groups l) := by
        refine LS (LB ok _) (LB ok _) fun x => ?_
        rw [DI mr tr ok, DI hl tl ok]
        constructor
        · rintro ⟨a, r, b⟩
          exact ⟨a, r, by rw [← same x a.2.2.1 r]; exact b⟩
        · rintro ⟨a, r, b⟩
          exact ⟨a, r, by rw [same x a.2.2.1 r]; exact b⟩
      have hP : EA size hop frm front (groups (oQ l frm).1) = EA size hop frm front (groups l) := by
        unfold EA
        rw [hB]
        refine List.map_congr_left fun x hx => ?_
        have := ((DI hl tl ok).1 hx).1.2.2.1
        rw [XE mr hl (same x this)]
      rw [hB, hP]

end Go.Abs
namespace Go.Abs
open Go
theorem aCh {l : List aL} (m : ∀ a ∈ l, tP a) (y : List.length l * 40 ≤ 140737488351232) : okL l :=
  ⟨by omega, fun e he => by have := (m e he).1.2; omega⟩

end Go.Abs
namespace Go.Abs
open Go
theorem RR (size hop t : Int) (h : 1 ≤ hop) : 0 ≤ (oD size hop t).1 ∧ (oD size hop t).1 ≤ 1125899906842624 := by
  have := (sD (n := t - size) h).1
  unfold oD
  split
  · simp
  · split
    · simp
    · split
      · simp
      · simp only; omega

theorem IC (l0 : (List aL)) (m0 : ∀ a ∈ l0, tP a) (y0 : List.length l0 * 40 ≤ 140737488351232) (a1 : Int) (w1 : uT a1) (a2 : Int) (w2 : uT a2) (a3 : Int) (w3 : uT a3) (a4 : Int) (w4 : uT a4) : oN l0 a1 a2 a3 a4 = some true := by
  have k0 := aCh m0 y0
  unfold oN
  rw [SF, Option.bind_some]
  by_cases o1 : (oD a1 a2 a3).2 = 0
  · by_cases o2 : a3 < (oD a1 a2 a3).1
    · simp [o1, o2, uW]
    · have b2 : decide (a3 < (oD a1 a2 a3).1) = false := by simpa using o2
      simp only [o1, b2, decide_true, Bool.not_true, Bool.or_self, cond_false, aAe k0, Option.bind_some]
      by_cases hk : (oQ l0 (oD a1 a2 a3).1).2 = 0
      · by_cases hF : (oD a1 a2 a3).1 = 1125899906842624
        · simp [hk, hF, dG, uW]
        · have bF : decide ((oD a1 a2 a3).1 = 1125899906842624) = false := by simpa using hF
          simp only [hk, bF, decide_true, Bool.not_true, Bool.or_self, Bool.not_false, dG, cond_true, LW k0, Option.bind_some, Bool.false_or]
          cases ht : sW l0 with
          | false => simp [uW]
          | true =>
            have ml := (vJ.1 ht).1
            have hb : 0 ≤ (oD a1 a2 a3).1 ∧ (oD a1 a2 a3).1 ≤ 1125899906842624 := by
              by_cases h2 : 1 ≤ a2
              · exact RR a1 a2 a3 h2
              · unfold oD at o1 ⊢
                have : uP a1 a2 = false := by
                  rw [Bool.eq_false_iff]; intro hm; have := DA hm; omega
                rw [this] at o1
                simp at o1
            have hf := RO (size := a1) (hop := a2) (front := a4) ml ht hb.1 (by omega) hk
            have kr := YP k0 (oD a1 a2 a3).1
            obtain ⟨u1, u2⟩ := RG k0 a1 a2 (oD a1 a2 a3).1 a4
            simp only [Bool.not_true, cond_false, AF k0, AF kr, hf, uW, Option.bind_some, decide_true, Bool.and_self, cond_true, QL (show (rL l0 a1 a2 (oD a1 a2 a3).1 a4).1.length ≤ 1000000 by omega) u2]
      · simp [hk, dG, uW]
  · simp [o1, uW]

end Go.Abs
