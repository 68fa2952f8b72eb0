/- What the law AlignDoes stands on: the framework, the given functions as plain functions, their walks, and the plain laws; part 6. -/
import Derived.Test.YtmnbomkkobifbaaAlignDoesZ5
set_option linter.unusedSimpArgs false
set_option linter.unusedVariables false
namespace Go.Abs
open Go
theorem aAj {l : List aD} (hl : l.length ≤ 1099511627776) : xF l = some (lG l) := by
  unfold xF zG lG
  rw [CX (l := l) (fun i => i) sD (.inr ([], 2)) (.inl ()) ?_ ?_]
  · cases h1 : l.any sD
    · simp only [Bool.false_eq_true, if_false, Option.bind_some, Sum.elim_inl, vF, zO]
      rw [mV (l := l) (body := fun s : List Int × Int => kE l s.1 s.2) (fun ps i => (ps, i)) (fun ps r => if r.any uM then .inr ([], 13) else .inl (BW ps (r.filter fun j => decide (j.At < 1125899906842624))))
        (fun ps r => Inc (-2) ps ∧ ps.length + r.length ≤ 1099511627776) [] ?_ ?_ ⟨trivial, by simpa using hl⟩]
      · cases h2 : l.any uM
        · simp only [Bool.false_eq_true, if_false, Option.bind_some, Sum.elim_inl, vK, zM]
          have hlen := VG (f := l.filter fun j => decide (j.At < 1125899906842624)) (ps := [])
          have hlf : (l.filter fun j => decide (j.At < 1125899906842624)).length ≤ l.length := List.length_filter_le _ _
          simp only [List.length_nil] at hlen
          have hvb : ∀ p, val l p ≤ 1048576 * l.length ∧ -(1048576 * l.length) ≤ val l p := fun p => QT p (by omega) (fun j hj => by have := HG h1 j hj; omega)
          rw [XH (ps := BW [] (l.filter fun j => decide (j.At < 1125899906842624))) (F := val l) (body := fun s : List Int × Int => oT l (BW [] (l.filter fun j => decide (j.At < 1125899906842624))) s.1 s.2) ?_ ?_ (by omega)]
          · simp only [Option.bind_some, uY]
            rw [YW (by omega) (fun p _ => by have := hvb p; omega)]
            rfl
          · intro i a vs ha _ hv
            obtain ⟨d1, d2, d3, d4⟩ := idx ha (by omega)
            show oT l _ vs i = _
            simp only [oT, d1, cond_true, aT d2, d3, d4, WX a (HG h1) hl, Option.bind_some]
            exact aT (by simp only [List.length_cons, List.length_nil]; omega)
          · intro vs
            show oT l _ vs _ = _
            simp only [oT, cY, cond_false]
        · simp
      · rintro i a r ps ha ⟨g1, g2⟩
        obtain ⟨d1, d2, d3, d4⟩ := idx ha (by omega)
        simp only [List.length_cons] at g2
        have hbod : kE l ps i = if uM a then some (.inr (.inr ([], 13))) else if a.At < 1125899906842624 then (tW ps a.At).bind (fun x => some (.inl (x, ((i + 1 : Nat) : Int)))) else some (.inl (ps, ((i + 1 : Nat) : Int))) := by
          simp only [kE, vO, d1, cond_true, aT d2, d3, d4]
          rw [aT (fun _ => d2)]
          unfold uM
          cases (decide (a.At < -1) || decide (1125899906842624 < a.At))
          · by_cases c : a.At < 1125899906842624 <;> simp [c]
          · simp
        cases ho : uM a
        · left
          rw [ho] at hbod
          have ho' : -1 ≤ a.At ∧ a.At ≤ 1125899906842624 := by simp [uM] at ho; omega
          by_cases c : a.At < 1125899906842624
          · have hlen := KI (t := a.At) (ps := ps)
            refine ⟨pZ a.At ps, ?_, ⟨KU g1 (by omega) c, by omega⟩, ?_⟩
            · show kE l ps i = _
              rw [hbod, aCM g1 (by omega)]; simp [c]
            · simp only [List.any_cons, ho, Bool.false_or]
              have hf : (a :: r).filter (fun j => decide (j.At < 1125899906842624)) = a :: r.filter (fun j => decide (j.At < 1125899906842624)) := by simp [c]
              rw [hf]; rfl
          · refine ⟨ps, ?_, ⟨g1, by omega⟩, ?_⟩
            · show kE l ps i = _
              rw [hbod]; simp [c]
            · simp only [List.any_cons, ho, Bool.false_or]
              have hf : (a :: r).filter (fun j => decide (j.At < 1125899906842624)) = r.filter (fun j => decide (j.At < 1125899906842624)) := by simp [c]
              rw [hf]
        · right
          rw [ho] at hbod
          show kE l ps i = _
          rw [hbod]; simp [ho]
      · intro ps _
        show kE l ps _ = _
        simp only [kE, cY, cond_false]
        simp [BW]
    · simp
  · intro i a ha
    obtain ⟨d1, d2, d3, d4⟩ := idx ha (by omega)
    show qT l i = _
    simp only [qT, d1, cond_true, aT d2, d3, d4]
    rw [aT (fun _ => d2)]
    unfold sD CD
    by_cases c1 : 1048576 < a.Net
    · have : ¬ a.Net ≤ 1048576 := by omega
      simp [c1, this]
    · have c1' : a.Net ≤ 1048576 := by omega
      by_cases c2 : a.Net < -1048576
      · have : ¬ -1048576 ≤ a.Net := by omega
        simp [c1', c1, c2, this]
      · have : -1048576 ≤ a.Net := by omega
        simp [c1', c1, c2, this]
  · show qT l _ = _
    simp only [qT, cY, cond_false]

end Go.Abs
namespace Go.Abs
open Go
theorem QH (x y : ByteArray) : pS x y = decide (x = y) := by
  unfold pS
  rw [ByteArray.toList_eq, ByteArray.toList_eq]
  by_cases h : x = y
  · simp [h]
  · have : x.data.toList ≠ y.data.toList := by
      intro he
      apply h
      cases x; cases y
      congr 1
      exact Array.toList_inj.1 he
    have h2 : (x.data.toList == y.data.toList) = false := by simpa using this
    rw [h2]; simp [h]

theorem veq (a b : aI) : ((decide (a.Kind = b.Kind)) && ((decide (a.Num = b.Num)) && ((pS a.Text b.Text) && true))) = decide (a = b) := by
  rw [QH]
  obtain ⟨a1, a2, a3⟩ := a
  obtain ⟨b1, b2, b3⟩ := b
  by_cases h1 : a1 = b1 <;> by_cases h2 : a2 = b2 <;> by_cases h3 : a3 = b3 <;> simp [h1, h2, h3]

def GC (v : aI) : Bool := decide (v.Kind = 1) && pS v.Text (⟨#[]⟩ : ByteArray)

def FJ (v : aI) : Bool := ((decide (v.Kind = 2)) && (decide (v.Num = 0))) && (decide (((ByteArray.size v.Text : Nat) : Int) ≤ 64))

def uO (v : aI) : Bool := GC v || FJ v

def gR (r : List aI) : Bool := decide (r.length ≤ 8) && r.all uO

theorem of_eq (v : aI) : nF v = some (if GC v then (.k_number v.Num, true) else if FJ v then (.k_words v.Text, true) else (.none_, false)) := by
  unfold nF GC FJ
  cases (decide (v.Kind = 1) && pS v.Text (⟨#[]⟩ : ByteArray)) <;> cases (((decide (v.Kind = 2)) && (decide (v.Num = 0))) && (decide (((ByteArray.size v.Text : Nat) : Int) ≤ 64))) <;> rfl

theorem aC4 (v : aI) : yT v = some (uO v) := by
  unfold yT uO
  rw [of_eq]
  cases GC v <;> cases FJ v <;> rfl

theorem NL (v : aI) : tI v = some (uO v) := by
  unfold tI uO GC FJ
  by_cases h : v.Kind = 1
  · simp [h]
  · simp [h]

theorem TM {l : List aI} {f : aI → Option Bool} {g : aI → Bool} (hl : l.length ≤ 1099511627776) (hf : ∀ x ∈ l, f x = some (g x)) : dX l f = some (l.any g) := by
  unfold dX gP gJ
  obtain ⟨x, e, hx⟩ := IC hl hf l 0 rfl (Nat.zero_le _)
  have e' : lp (fun s => fZ f l (l.length : Nat) s) 0 = some x := e
  rw [e']
  rcases hx with ⟨rfl, h⟩ | ⟨i, rfl, _, _, h, _⟩
  · simp [eD, h]
  · simp [h]

theorem LK (r : List aI) : uK r = some (gR r) := by
  unfold uK gR
  by_cases h : r.length ≤ 8
  · have h1 : decide ((8 : Int) < ((r.length : Nat) : Int)) = false := by simp; omega
    rw [h1, cond_false, TM (g := fun v => !uO v) (by omega) (fun x _ => by simp [yV, aC4])]
    simp only [Option.bind_some, h, decide_true, Bool.true_and]
    congr 1
    rw [List.all_eq_not_any_not]
  · have h1 : decide ((8 : Int) < ((r.length : Nat) : Int)) = true := by simp; omega
    rw [h1, cond_true]
    simp [h]

theorem DL (r : List aI) (hl : r.length ≤ 1099511627776 * 16) : rK r = some (gR r) := by
  unfold rK BI
  have hl9 : (r.take 9).length ≤ 9 := by simp; omega
  rw [CX (l := r.take 9) (fun i => i) (fun v => !uO v) (.inr false) (.inl ()) ?_ ?_]
  · unfold gR
    by_cases h : r.length ≤ 8
    · have ht : r.take 9 = r := List.take_of_length_le (by omega)
      rw [ht, List.all_eq_not_any_not]
      cases h1 : (r.any fun v => !uO v)
      · have : ((r.length : Nat) : Int) ≤ 8 := by omega
        simp [uE, this, h]
      · simp
    · cases h1 : ((r.take 9).any fun v => !uO v)
      · have : ¬ ((r.length : Nat) : Int) ≤ 8 := by omega
        simp [uE, this, h]
      · simp [h]
  · intro i a ha
    have hi : i < (r.take 9).length := (List.getElem?_eq_some_iff.1 ha).1
    have hi2 : i < r.length := by simp at hi; omega
    have ha2 : r[i]? = some a := by
      rw [List.getElem?_take] at ha
      split at ha
      · exact ha
      · cases ha
    obtain ⟨d1, d2, d3, d4⟩ := idx ha2 (by omega)
    have h9 : decide ((i : Int) < 9) = true := by simp; omega
    show rR r i = _
    simp only [rR, d1, h9, Bool.and_self, cond_true, aT d2, d3, d4, NL, Option.bind_some]
    cases uO a <;> simp
  · show rR r _ = _
    have : ((decide ((((r.take 9).length : Nat) : Int) < ((r.length : Nat) : Int))) && (decide ((((r.take 9).length : Nat) : Int) < 9))) = false := by
      rw [Bool.and_eq_false_iff]
      by_cases h : r.length ≤ 8
      · left; simp; omega
      · right; simp; omega
    simp only [rR, this, cond_false]

theorem SH {α : Type} [DecidableEq α] {f g : List α} {body : Int → Option (Int ⊕ (Unit ⊕ Bool))} (he : f.length = g.length)
    (hb : ∀ (i : Nat) a b, f[i]? = some a → g[i]? = some b → body i = some (if a = b then .inl ((i + 1 : Nat) : Int) else .inr (.inr false)))
    (hend : body (f.length : Nat) = some (.inr (.inl ()))) : ∀ (m k : Nat), f.length - k = m → k ≤ f.length → lp body (k : Int) = some (if f.drop k = g.drop k then .inl () else .inr false)
  | 0, k, hm, hk => by
    have : k = f.length := by omega
    subst this
    rw [List.drop_length, he, List.drop_length, if_pos rfl]
    rw [← he]
    exact cM hend
  | m + 1, k, hm, hk => by
    have h1 : k < f.length := by omega
    have h2 : k < g.length := by omega
    have hbk := hb k _ _ (List.getElem?_eq_getElem h1) (List.getElem?_eq_getElem h2)
    have e1 : f.drop k = f[k] :: f.drop (k + 1) := List.drop_eq_getElem_cons h1
    have e2 : g.drop k = g[k] :: g.drop (k + 1) := List.drop_eq_getElem_cons h2
    have hiff : (f.drop k = g.drop k) ↔ (f[k] = g[k] ∧ f.drop (k + 1) = g.drop (k + 1)) := by rw [e1, e2, List.cons.injEq]
    by_cases h : f[k] = g[k]
    · rw [if_pos h] at hbk
      rw [dS hbk, SH he hb hend m (k + 1) (by omega) (by omega)]
      simp only [hiff, h, true_and]
    · rw [if_neg h] at hbk
      rw [cM hbk]
      simp only [hiff, h, false_and, if_false]

theorem WA {α : Type} {f g : List α} (h : f.length ≠ g.length) : (!decide (((f.length : Nat) : Int) = ((g.length : Nat) : Int))) = true := by simp; omega

theorem SZ {α : Type} {f g : List α} (h : f.length = g.length) : (!decide (((f.length : Nat) : Int) = ((g.length : Nat) : Int))) = false := by simp [h]

theorem aAk (a b : List aI) (hl : a.length ≤ 17592186044416) : AV a b = some (decide (a = b)) := by
  unfold AV jL
  by_cases he : a.length = b.length
  · rw [SZ he, cond_false]
    unfold jA
    have := SH (f := a) (g := b) (body := fun s => dY a b (a.length : Nat) s) he ?_ ?_ a.length 0 rfl (Nat.zero_le _)
    · simp only [Int.natCast_zero, List.drop_zero] at this
      rw [this]
      by_cases h : a = b <;> simp [h, fG]
    · intro i x y hx hy
      obtain ⟨d1, d2, d3, d4⟩ := idx hx (by omega)
      obtain ⟨_, e2, e3, _⟩ := idx hy (by omega)
      simp only [dY, d1, cond_true, aT d2, aT e2, d3, e3, d4, veq]
      by_cases h : x = y <;> simp [h]
    · simp only [dY, cY, cond_false]
  · rw [WA he, cond_true]
    have : a ≠ b := fun h => he (by rw [h])
    simp [this]

theorem DF (a b : List aI) (hl : a.length ≤ 17592186044416) : rT a b = some (decide (a = b)) := by
  unfold rT
  by_cases he : a.length = b.length
  · rw [SZ he, cond_false]
    unfold yY
    have := SH (f := a) (g := b) (body := fun s => sP a b s) he ?_ ?_ a.length 0 rfl (Nat.zero_le _)
    · simp only [Int.natCast_zero, List.drop_zero] at this
      rw [this]
      by_cases h : a = b <;> simp [h, vP]
    · intro i x y hx hy
      obtain ⟨d1, d2, d3, d4⟩ := idx hx (by omega)
      obtain ⟨_, e2, e3, _⟩ := idx hy (by omega)
      simp only [sP, d1, cond_true, aT d2, aT e2, d3, e3, d4, veq]
      by_cases h : x = y <;> simp [h]
    · simp only [sP, cY, cond_false]
  · rw [WA he, cond_true]
    have : a ≠ b := fun h => he (by rw [h])
    simp [this]

structure JS {α : Type} (c : α → α → Int) : Prop where
  eq : ∀ a b, c a b = 0 ↔ a = b
  anti : ∀ a b, c a b < 0 ↔ 0 < c b a
  trans : ∀ a b d, c a b < 0 → c b d < 0 → c a d < 0

def oU (x y : Int) : Int := if x < y then -1 else if y < x then 1 else 0

theorem EN : JS oU where
  eq a b := by unfold oU; (repeat' split) <;> omega
  anti a b := by unfold oU; (repeat' split) <;> omega
  trans a b d := by unfold oU; (repeat' split) <;> omega

def gK {α : Type} [DecidableEq α] (c : α → α → Int) : List α → List α → Int
  | [], [] => 0
  | [], _ :: _ => -1
  | _ :: _, [] => 1
  | a :: r, b :: s => if a = b then gK c r s else c a b

theorem JS.list {α : Type} [DecidableEq α] {c : α → α → Int} (h : JS c) : JS (gK c) where
  eq := by
    intro a
    induction a with
    | nil => intro b; cases b <;> simp [gK]
    | cons x r ih =>
      intro b
      cases b with
      | nil => simp [gK]
      | cons y s =>
        unfold gK
        split
        · rename_i e; subst e; rw [ih]; simp
        · rename_i e
          have := h.eq x y
          constructor
          · intro h0; exact absurd (this.1 h0) e
          · intro h0; cases h0; exact absurd rfl e
  anti := by
    intro a
    induction a with
    | nil => intro b; cases b <;> simp [gK]
    | cons x r ih =>
      intro b
      cases b with
      | nil => simp [gK]
      | cons y s =>
        unfold gK
        by_cases e : x = y
        · subst e; simp only [if_true]; exact ih s
        · rw [if_neg e, if_neg (fun e' => e e'.symm)]; exact h.anti x y
  trans := by
    intro a
    induction a with
    | nil =>
      intro b d
      cases b <;> cases d <;> simp [gK]
    | cons x r ih =>
      intro b d
      cases b with
      | nil => simp [gK]
      | cons y s =>
        cases d with
        | nil => simp [gK]
        | cons z t =>
          unfold gK
          by_cases e1 : x = y
          · subst e1
            rw [if_pos rfl]
            by_cases e2 : x = z
            · subst e2; rw [if_pos rfl, if_pos rfl]; exact ih s t
            · rw [if_neg e2, if_neg e2]; exact fun _ h => h
          · rw [if_neg e1]
            by_cases e2 : y = z
            · have hz : ¬ x = z := fun e => e1 (e.trans e2.symm)
              intro h _
              rw [if_neg hz, ← e2]; exact h
            · rw [if_neg e2]
              intro h1 h2
              by_cases e3 : x = z
              · subst e3
                have h3 := (h.anti x y).1 h1
                omega
              · rw [if_neg e3]; exact h.trans x y z h1 h2

def DC (a b : UInt8) : Int := if a < b then -1 else if b < a then 1 else 0

theorem MO : JS DC where
  eq a b := by
    unfold DC
    constructor
    · intro h
      split at h
      · cases h
      · split at h
        · cases h
        · rename_i h1 h2
          rw [UInt8.lt_iff_toNat_lt] at h1 h2
          exact UInt8.toNat_inj.1 (by omega)
    · rintro rfl
      have : ¬ a < a := by rw [UInt8.lt_iff_toNat_lt]; omega
      simp [this]
  anti a b := by
    unfold DC
    simp only [UInt8.lt_iff_toNat_lt]
    (repeat' split) <;> omega
  trans a b d := by
    unfold DC
    simp only [UInt8.lt_iff_toNat_lt]
    (repeat' split) <;> omega

theorem FI : ∀ (a b : List UInt8), Go.Lib.compareBytes a b = gK DC a b
  | [], [] => rfl
  | [], _ :: _ => rfl
  | _ :: _, [] => rfl
  | a :: r, b :: s => by
    unfold Go.Lib.compareBytes gK
    rw [FI r s]
    by_cases e : a = b
    · subst e
      have : ¬ a < a := by rw [UInt8.lt_iff_toNat_lt]; omega
      simp [this]
    · rw [if_neg e]
      unfold DC
      have : ¬ (¬ a < b ∧ ¬ b < a) := by
        rintro ⟨h1, h2⟩
        rw [UInt8.lt_iff_toNat_lt] at h1 h2
        exact e (UInt8.toNat_inj.1 (by omega))
      by_cases h1 : a < b
      · simp [h1]
      · have h2 : b < a := Classical.byContradiction fun h2 => this ⟨h1, h2⟩
        simp [h1, h2]

def PY (a b : ByteArray) : Int := gK DC a.data.toList b.data.toList

theorem aCO (a b : ByteArray) : PL a b = PY a b := FI _ _

theorem data_inj {x y : ByteArray} (h : x.data.toList = y.data.toList) : x = y := by
  cases x; cases y
  congr 1
  exact Array.toList_inj.1 h

theorem IE : JS PY where
  eq a b := by unfold PY; rw [(MO.list).eq]; exact ⟨data_inj, fun h => by rw [h]⟩
  anti a b := (MO.list).anti _ _
  trans a b d := (MO.list).trans _ _ _

def zY (a b : aI) : Int := if a.Kind = b.Kind then (if a.Num = b.Num then PY a.Text b.Text else oU a.Num b.Num) else oU a.Kind b.Kind

theorem HD : JS zY where
  eq a b := by
    obtain ⟨a1, a2, a3⟩ := a
    obtain ⟨b1, b2, b3⟩ := b
    unfold zY
    simp only [aI.mk.injEq]
    by_cases h1 : a1 = b1
    · by_cases h2 : a2 = b2
      · simp [h1, h2, IE.eq]
      · simp [h1, h2, EN.eq]
    · simp [h1, EN.eq]
  anti a b := by
    unfold zY
    by_cases h1 : a.Kind = b.Kind
    · rw [if_pos h1, if_pos h1.symm]
      by_cases h2 : a.Num = b.Num
      · rw [if_pos h2, if_pos h2.symm]; exact IE.anti _ _
      · rw [if_neg h2, if_neg (fun h => h2 h.symm)]; exact EN.anti _ _
    · rw [if_neg h1, if_neg (fun h => h1 h.symm)]; exact EN.anti _ _
  trans a b d := by
    unfold zY
    intro h1 h2
    have lt : ∀ {x y : Int}, oU x y < 0 → x < y := fun {x y} h => by unfold oU at h; split at h <;> (try split at h) <;> omega
    have mk : ∀ {x y : Int}, x < y → oU x y < 0 := fun {x y} h => by unfold oU; rw [if_pos h]; omega
    by_cases e1 : a.Kind = b.Kind
    · rw [if_pos e1] at h1
      by_cases e2 : b.Kind = d.Kind
      · rw [if_pos e2] at h2
        rw [if_pos (e1.trans e2)]
        by_cases f1 : a.Num = b.Num
        · rw [if_pos f1] at h1
          by_cases f2 : b.Num = d.Num
          · rw [if_pos f2] at h2
            rw [if_pos (f1.trans f2)]
            exact IE.trans _ _ _ h1 h2
          · rw [if_neg f2] at h2
            rw [f1, if_neg f2]; exact h2
        · rw [if_neg f1] at h1
          have g1 := lt h1
          by_cases f2 : b.Num = d.Num
          · rw [← f2, if_neg f1]; exact h1
          · rw [if_neg f2] at h2
            have g2 := lt h2
            rw [if_neg (by omega)]
            exact mk (by omega)
      · rw [if_neg e2] at h2
        rw [e1, if_neg e2]; exact h2
    · rw [if_neg e1] at h1
      have g1 := lt h1
      by_cases e2 : b.Kind = d.Kind
      · rw [← e2, if_neg e1]; exact h1
      · rw [if_neg e2] at h2
        have g2 := lt h2
        rw [if_neg (by omega)]
        exact mk (by omega)

def eT (a b : List aI) : Int := gK zY a b

theorem mI : JS eT := HD.list

end Go.Abs
namespace Go.Abs
open Go
theorem QX (x y : Int) : kL x y = some (oU x y) := by
  unfold kL qP oU
  by_cases h1 : x < y
  · simp [h1]
  · by_cases h2 : y < x <;> simp [h1, h2]

theorem aBu (x y : Int) : eS x y = some (oU x y) := by
  unfold eS kV oU
  by_cases h1 : x < y
  · simp [h1]
  · by_cases h2 : y < x <;> simp [h1, h2]

theorem EB {v : aI} (h : GC v = true) : v.Kind = 1 ∧ v.Text = (⟨#[]⟩ : ByteArray) := by
  simp only [GC, QH, Bool.and_eq_true, decide_eq_true_eq] at h; exact h

theorem BV {v : aI} (h : FJ v = true) : v.Kind = 2 ∧ v.Num = 0 ∧ v.Text.size ≤ 64 := by
  simp only [FJ, Bool.and_eq_true, decide_eq_true_eq] at h; exact ⟨h.1.1, h.1.2, by omega⟩

theorem LF {v : aI} (h : uO v = true) : GC v = true ∨ (GC v = false ∧ FJ v = true) := by
  unfold uO at h
  cases hn : GC v
  · rw [hn] at h; exact .inr ⟨rfl, by simpa using h⟩
  · exact .inl rfl

theorem aAv (a : ByteArray) : PY a a = 0 := (IE.eq a a).2 rfl

theorem FO (a : Int) : oU a a = 0 := (EN.eq a a).2 rfl

theorem aA1 {a b : aI} (ha : uO a = true) (hb : uO b = true) : tG a b = some (zY a b) := by
  unfold tG
  simp only [of_eq, Option.bind_some]
  rcases LF ha with h1 | ⟨h1, h1'⟩ <;> rcases LF hb with h2 | ⟨h2, h2'⟩
  · obtain ⟨k1, t1⟩ := EB h1
    obtain ⟨k2, t2⟩ := EB h2
    simp only [h1, h2, if_true, Bool.not_true, Bool.or_self, cond_false, aBu, Option.bind_some]
    unfold zY
    rw [k1, k2, t1, t2, if_pos rfl, aAv]
    by_cases hn : a.Num = b.Num
    · rw [if_pos hn, hn, FO]
    · rw [if_neg hn]
  · obtain ⟨k1, t1⟩ := EB h1
    obtain ⟨k2, n2, _⟩ := BV h2'
    simp only [h1, h2, h2', if_true, Bool.false_eq_true, if_false, Bool.not_true, Bool.or_self, cond_false]
    unfold zY
    rw [k1, k2]; rfl
  · obtain ⟨k1, n1, _⟩ := BV h1'
    obtain ⟨k2, t2⟩ := EB h2
    simp only [h1, h1', h2, if_true, Bool.false_eq_true, if_false, Bool.not_true, Bool.or_self, cond_false]
    unfold zY
    rw [k1, k2]; rfl
  · obtain ⟨k1, n1, _⟩ := BV h1'
    obtain ⟨k2, n2, _⟩ := BV h2'
    simp only [h1, h1', h2, h2', if_true, Bool.false_eq_true, if_false, Bool.not_true, Bool.or_self, cond_false]
    unfold zY oK jU
    rw [k1, k2, n1, n2, if_pos rfl, if_pos rfl]
    simp [aCO]

theorem AF {r : List aI} (h : gR r = true) : r.length ≤ 8 ∧ ∀ v ∈ r, uO v = true := by
  simp only [gR, Bool.and_eq_true, decide_eq_true_eq, List.all_eq_true] at h; exact h

theorem UA {a b : List aI} {k : Nat} (hk : k = a.length ∨ k = b.length) (h1 : k ≤ a.length) (h2 : k ≤ b.length) : eT (a.drop k) (b.drop k) = oU a.length b.length := by
  rcases hk with rfl | rfl
  · rw [List.drop_length]
    by_cases h : a.length = b.length
    · rw [h, List.drop_length, FO]; rfl
    · rw [List.drop_eq_getElem_cons (by omega)]
      show (-1 : Int) = _
      unfold oU; rw [if_pos (by omega)]
  · rw [List.drop_length]
    by_cases h : a.length = b.length
    · rw [← h, List.drop_length, FO]; rfl
    · rw [List.drop_eq_getElem_cons (by omega)]
      show (1 : Int) = _
      unfold oU; rw [if_neg (by omega), if_pos (by omega)]

theorem XR {a b : List aI} (hl : a.length ≤ 8) (hlb : b.length ≤ 8) (n : Nat) (hn : n = min a.length b.length) : ∀ (m k : Nat), n - k = m → k ≤ n →
    ∃ x, lp (fun s : Int × Int => cC (fun st y0 => (kK y0 st b).bind fun o => some (o.2, o.1)) (a.take n) (n : Nat) s.1 s.2) ((k : Int) - 1, (k : Int)) = some x ∧
      ((∃ sg, x = .inl sg ∧ eT (a.drop k) (b.drop k) = oU a.length b.length) ∨
        (∃ i : Nat, x = .inr ((i : Int), (i : Int)) ∧ i < a.length ∧ i < b.length ∧ eT (a.drop k) (b.drop k) = zY (a.getD i default) (b.getD i default)))
  | 0, k, hm, hk => by
    have : k = n := by omega
    subst this
    refine ⟨.inl ((k : Int) - 1), cM ?_, .inl ⟨_, rfl, UA (by omega) (by omega) (by omega)⟩⟩
    show cC _ _ _ _ _ = _
    simp only [cC, cY, cond_false]
  | m + 1, k, hm, hk => by
    have h1 : k < a.length := by omega
    have h2 : k < b.length := by omega
    have ht : (a.take n)[k]? = some a[k] := by
      rw [List.getElem?_take_of_lt (by omega)]; exact List.getElem?_eq_getElem h1
    obtain ⟨d1, d2, d3, d4⟩ := idx ht (by simp; omega)
    have hlt : (a.take n).length = n := by simp; omega
    rw [hlt] at d1 d2
    obtain ⟨_, e2, e3, _⟩ := idx (List.getElem?_eq_getElem h2) (by omega)
    have hw : IntKind.i64.wrap ((k : Int) - 1 + 1) = (k : Int) := by rw [fA (by omega) (by omega)]; omega
    have hb : (fun s : Int × Int => cC (fun st y0 => (kK y0 st b).bind fun o => some (o.2, o.1)) (a.take n) (n : Nat) s.1 s.2) ((k : Int) - 1, (k : Int)) =
        some (if a[k] = b[k] then .inl ((k : Int), ((k + 1 : Nat) : Int)) else .inr (.inr ((k : Int), (k : Int)))) := by
      show cC _ _ _ _ _ = _
      simp only [cC, d1, cond_true, hlt, aT d2, d3, d4, kK, hw, aT e2, e3, veq, Option.bind_some]
      by_cases h : a[k] = b[k] <;> simp [h]
    have ea : a.drop k = a[k] :: a.drop (k + 1) := List.drop_eq_getElem_cons h1
    have eb : b.drop k = b[k] :: b.drop (k + 1) := List.drop_eq_getElem_cons h2
    by_cases h : a[k] = b[k]
    · rw [if_pos h] at hb
      obtain ⟨x, e, hx⟩ := XR hl hlb n hn m (k + 1) (by omega) (by omega)
      have hc : eT (a.drop k) (b.drop k) = eT (a.drop (k + 1)) (b.drop (k + 1)) := by
        rw [ea, eb]; unfold eT; rw [gK, if_pos h]
      refine ⟨x, ?_, by rw [hc]; exact hx⟩
      rw [dS hb]
      rw [show ((k + 1 : Nat) : Int) - 1 = (k : Int) by omega] at e
      exact e
    · rw [if_neg h] at hb
      refine ⟨_, cM hb, .inr ⟨k, rfl, h1, h2, ?_⟩⟩
      rw [ea, eb]; unfold eT; rw [gK, if_neg h]
      simp [List.getD_eq_getElem?_getD, h1, h2]

theorem RL (a b : List aI) : sQ a b = some (if gR a && gR b then eT a b else 0) := by
  unfold sQ
  rw [LK]
  simp only [Option.bind_some]
  cases ha : gR a
  · simp [dU]
  · simp only [Bool.not_true, Bool.not_false, dU, cond_true, LK, Option.bind_some, Bool.false_or]
    cases hb : gR b
    · simp
    · obtain ⟨la, ma⟩ := AF ha
      obtain ⟨lb, mb⟩ := AF hb
      have hif : (if ((List.length b : Nat) : Int) < ((List.length a : Nat) : Int) then ((List.length b : Nat) : Int) else ((List.length a : Nat) : Int)) = ((min a.length b.length : Nat) : Int) := by split <;> omega
      have hlt : (a.take (min a.length b.length)).length = min a.length b.length := by rw [List.length_take]; omega
      simp only [Bool.not_true, cond_false, hif, Int.toNat_natCast, wN, Option.bind_some, fV, fM, hlt, Bool.and_self, if_true]
      rw [aT ⟨by omega, by omega⟩]
      obtain ⟨x, e, hx⟩ := XR (a := a) (b := b) la lb _ rfl _ 0 rfl (Nat.zero_le _)
      have e' : lp (fun s : Int × Int => cC (fun st y0 => (kK y0 st b).bind fun o => some (o.2, o.1)) (a.take (min a.length b.length)) (min a.length b.length : Nat) s.1 s.2) ((-1 : Int), (0 : Int)) = some x := e
      rw [e']
      simp only [List.drop_zero] at hx
      rcases hx with ⟨sg, rfl, h⟩ | ⟨i, rfl, h1, h2, h⟩
      · simp [dV, QX, h]
      · have hi : decide ((i : Int) < 0) = false := by simp
        simp only [Option.bind_some, Sum.elim_inr, hi, cond_false, Int.toNat_natCast]
        rw [aT ⟨by omega, by omega⟩, aT ⟨by omega, by omega⟩]
        have g1 : a.getD i default ∈ a := by simp [List.getD_eq_getElem?_getD, h1]
        have g2 : b.getD i default ∈ b := by simp [List.getD_eq_getElem?_getD, h2]
        rw [aA1 (ma _ g1) (mb _ g2), h]
        simp only [Option.bind_some]

theorem aCq {s : ByteArray} {i : Nat} (h : i < s.data.toList.length) : bt s (i : Int) = ((s.data.toList[i]).toNat : Int) := by
  have h' : i < s.data.size := by simpa using h
  unfold bt
  simp only [Int.toNat_natCast, Array.getElem_toList]
  rw [Array.getD_eq_getD_getElem?, Array.getElem?_eq_getElem h']
  rfl

theorem VX {a b : aI} (ha : a.Text.size ≤ 64) (hb : b.Text.size ≤ 64) : ∀ (m k : Nat), min a.Text.size b.Text.size - k = m → k ≤ min a.Text.size b.Text.size →
    ∃ x, lp (fun s => gW a b s) (k : Int) = some x ∧
      ((x = .inl () ∧ gK DC (a.Text.data.toList.drop k) (b.Text.data.toList.drop k) = oU a.Text.size b.Text.size) ∨ (∃ v, x = .inr v ∧ gK DC (a.Text.data.toList.drop k) (b.Text.data.toList.drop k) = v))
  | 0, k, hm, hk => by
    have hsa : a.Text.data.toList.length = a.Text.size := by rw [Array.length_toList]; rfl
    have hsb : b.Text.data.toList.length = b.Text.size := by rw [Array.length_toList]; rfl
    refine ⟨.inl (), cM ?_, .inl ⟨rfl, ?_⟩⟩
    · show gW a b _ = _
      have : ((decide ((k : Int) < ((ByteArray.size a.Text : Nat) : Int))) && (decide ((k : Int) < ((ByteArray.size b.Text : Nat) : Int)))) = false := by
        rw [Bool.and_eq_false_iff]
        simp only [decide_eq_false_iff_not]
        omega
      simp only [gW, this, cond_false]
    · by_cases h1 : a.Text.size ≤ k
      · rw [List.drop_eq_nil_of_le (by omega)]
        by_cases h2 : b.Text.size ≤ k
        · rw [List.drop_eq_nil_of_le (by omega)]
          have : a.Text.size = b.Text.size := by omega
          rw [this, FO]; rfl
        · rw [List.drop_eq_getElem_cons (by omega)]
          show (-1 : Int) = _
          unfold oU; rw [if_pos (by omega)]
      · have h2 : b.Text.size ≤ k := by omega
        rw [@List.drop_eq_nil_of_le _ b.Text.data.toList k (by omega), List.drop_eq_getElem_cons (by omega)]
        show (1 : Int) = _
        unfold oU; rw [if_neg (by omega), if_pos (by omega)]
  | m + 1, k, hm, hk => by
    have hsa : a.Text.data.toList.length = a.Text.size := by rw [Array.length_toList]; rfl
    have hsb : b.Text.data.toList.length = b.Text.size := by rw [Array.length_toList]; rfl
    have h1 : k < a.Text.data.toList.length := by omega
    have h2 : k < b.Text.data.toList.length := by omega
    have c1 : decide ((k : Int) < ((ByteArray.size a.Text : Nat) : Int)) = true := by simp; omega
    have c2 : decide ((k : Int) < ((ByteArray.size b.Text : Nat) : Int)) = true := by simp; omega
    have p1 : 0 ≤ (k : Int) ∧ (k : Int) < ((ByteArray.size a.Text : Nat) : Int) := ⟨by omega, by omega⟩
    have p2 : 0 ≤ (k : Int) ∧ (k : Int) < ((ByteArray.size b.Text : Nat) : Int) := ⟨by omega, by omega⟩
    have hw : IntKind.i64.wrap ((k : Int) + 1) = ((k + 1 : Nat) : Int) := by rw [fA (by omega) (by omega)]; omega
    have ea := List.drop_eq_getElem_cons h1
    have eb := List.drop_eq_getElem_cons h2
    have hb' : gW a b (k : Int) = some (if a.Text.data.toList[k] = b.Text.data.toList[k] then .inl ((k + 1 : Nat) : Int) else .inr (.inr (DC a.Text.data.toList[k] b.Text.data.toList[k]))) := by
      simp only [gW, c1, c2, Bool.and_self, cond_true, aT p1, aT p2, aCq h1, aCq h2, hw]
      generalize a.Text.data.toList[k] = x
      generalize b.Text.data.toList[k] = y
      by_cases e : x = y
      · subst e; simp
      · have e' : ¬ ((x.toNat : Int) = (y.toNat : Int)) := fun h => e (UInt8.toNat_inj.1 (by omega))
        simp only [e', decide_false, Bool.not_false, cond_true, if_neg e]
        unfold DC
        simp only [UInt8.lt_iff_toNat_lt]
        by_cases l : x.toNat < y.toNat
        · have : ((x.toNat : Int) < (y.toNat : Int)) := by omega
          simp [l]
        · have l2 : y.toNat < x.toNat := by
            rcases Nat.lt_or_ge y.toNat x.toNat with h | h
            · exact h
            · exact absurd (UInt8.toNat_inj.1 (by omega)) e
          simp [l, l2]
    by_cases e : a.Text.data.toList[k] = b.Text.data.toList[k]
    · rw [if_pos e] at hb'
      obtain ⟨x, hx1, hx2⟩ := VX ha hb m (k + 1) (by omega) (by omega)
      refine ⟨x, by rw [dS (show (fun s => gW a b s) (k : Int) = _ from hb')]; exact hx1, ?_⟩
      rw [ea, eb, gK, if_pos e]; exact hx2
    · rw [if_neg e] at hb'
      refine ⟨_, cM (show (fun s => gW a b s) (k : Int) = _ from hb'), .inr ⟨_, rfl, ?_⟩⟩
      rw [ea, eb, gK, if_neg e]

theorem RE {v : aI} (h : uO v = true) : v.Text.size ≤ 64 := by
  rcases LF h with h | ⟨_, h⟩
  · rw [(EB h).2]; decide
  · exact (BV h).2.2

theorem RF {v : aI} (h : uO v = true) : v.Kind = 1 ∨ v.Kind = 2 := by
  rcases LF h with h | ⟨_, h⟩
  · exact .inl (EB h).1
  · exact .inr (BV h).1

theorem UX {a b : aI} (ha : uO a = true) (hb : uO b = true) : tE a b = some (zY a b) := by
  unfold tE
  simp only [NL, ha, hb, Option.bind_some, Bool.not_true, Bool.not_false, dU, cond_true, Bool.or_self, cond_false]
  unfold zY
  by_cases hk : a.Kind = b.Kind
  · rw [if_pos hk]
    by_cases hn : a.Num = b.Num
    · rw [if_pos hn]
      simp only [hk, hn, decide_true, Bool.not_true, cond_false, uX]
      obtain ⟨x, e, hx⟩ := VX (RE ha) (RE hb) _ 0 rfl (Nat.zero_le _)
      simp only [Int.natCast_zero, List.drop_zero] at e hx
      rw [e]
      have ht : PY a.Text b.Text = gK DC a.Text.data.toList b.Text.data.toList := rfl
      rcases hx with ⟨rfl, h⟩ | ⟨v, rfl, h⟩
      · rw [ht, h]
        simp only [Option.bind_some, Sum.elim_inl, sC]
        unfold oU
        by_cases h1 : a.Text.size = b.Text.size
        · have h1' : ((a.Text.size : Nat) : Int) = ((b.Text.size : Nat) : Int) := by omega
          simp [h1']
        · have h1' : ¬ ((a.Text.size : Nat) : Int) = ((b.Text.size : Nat) : Int) := by omega
          by_cases h2 : ((a.Text.size : Nat) : Int) < ((b.Text.size : Nat) : Int)
          · simp only [h1', h2, decide_false, decide_true, Bool.not_false, cond_true, if_true]
          · have h3 : ((b.Text.size : Nat) : Int) < ((a.Text.size : Nat) : Int) := by omega
            simp only [h1', h2, h3, decide_false, Bool.not_false, cond_true, cond_false, if_true, if_false]
      · rw [ht, h]; rfl
    · rw [if_neg hn]
      simp only [hk, hn, decide_true, decide_false, Bool.not_true, Bool.not_false, cond_false, cond_true]
      unfold oU
      by_cases h1 : a.Num < b.Num
      · simp [h1]
      · have h2 : b.Num < a.Num := by omega
        simp [h1, h2]
  · rw [if_neg hk]
    simp only [hk, decide_false, Bool.not_false, cond_true]
    rcases RF ha with h1 | h1 <;> rcases RF hb with h2 | h2
    · exact absurd (h1.trans h2.symm) hk
    · rw [h1, h2]; rfl
    · rw [h1, h2]; rfl
    · exact absurd (h1.trans h2.symm) hk

theorem RN {a b : List aI} (ha : gR a = true) (hb : gR b = true) : ∀ (m k : Nat), min a.length b.length - k = m → k ≤ min a.length b.length →
    ∃ x, lp (fun s => gY a b s) (k : Int) = some x ∧ ((x = .inl () ∧ eT (a.drop k) (b.drop k) = oU a.length b.length) ∨ (∃ v, x = .inr v ∧ eT (a.drop k) (b.drop k) = v))
  | 0, k, hm, hk => by
    refine ⟨.inl (), cM ?_, .inl ⟨rfl, UA (by omega) (by omega) (by omega)⟩⟩
    show gY a b _ = _
    have : ((decide ((k : Int) < ((a.length : Nat) : Int))) && (decide ((k : Int) < ((b.length : Nat) : Int)))) = false := by
      rw [Bool.and_eq_false_iff]
      simp only [decide_eq_false_iff_not]
      omega
    simp only [gY, this, cond_false]
  | m + 1, k, hm, hk => by
    obtain ⟨la, ma⟩ := AF ha
    obtain ⟨lb, mb⟩ := AF hb
    have h1 : k < a.length := by omega
    have h2 : k < b.length := by omega
    obtain ⟨d1, d2, d3, d4⟩ := idx (List.getElem?_eq_getElem h1) (by omega)
    obtain ⟨e1, e2, e3, _⟩ := idx (List.getElem?_eq_getElem h2) (by omega)
    have ea := List.drop_eq_getElem_cons h1
    have eb := List.drop_eq_getElem_cons h2
    have hb' : gY a b (k : Int) = some (if a[k] = b[k] then .inl ((k + 1 : Nat) : Int) else .inr (.inr (zY a[k] b[k]))) := by
      simp only [gY, d1, e1, Bool.and_self, cond_true, aT d2, aT e2, d3, e3, d4, UX (ma _ (List.getElem_mem h1)) (mb _ (List.getElem_mem h2)), Option.bind_some]
      by_cases h : a[k] = b[k]
      · have := (HD.eq a[k] b[k]).2 h
        simp [h, (HD.eq b[k] b[k]).2 rfl]
      · have : ¬ zY a[k] b[k] = 0 := fun h' => h ((HD.eq _ _).1 h')
        simp [h, this]
    by_cases h : a[k] = b[k]
    · rw [if_pos h] at hb'
      obtain ⟨x, hx1, hx2⟩ := RN ha hb m (k + 1) (by omega) (by omega)
      refine ⟨x, by rw [dS (show (fun s => gY a b s) (k : Int) = _ from hb')]; exact hx1, ?_⟩
      have hc : eT (a.drop k) (b.drop k) = eT (a.drop (k + 1)) (b.drop (k + 1)) := by
        rw [ea, eb]; unfold eT; rw [gK, if_pos h]
      rw [hc]; exact hx2
    · rw [if_neg h] at hb'
      refine ⟨_, cM (show (fun s => gY a b s) (k : Int) = _ from hb'), .inr ⟨_, rfl, ?_⟩⟩
      rw [ea, eb]; unfold eT; rw [gK, if_neg h]

theorem KH (a b : List aI) (hla : a.length ≤ 17592186044416) (hlb : b.length ≤ 17592186044416) : qN a b = some (if gR a && gR b then eT a b else 0) := by
  unfold qN
  rw [DL a (by omega)]
  simp only [Option.bind_some]
  cases ha : gR a
  · simp [dU]
  · simp only [Bool.not_true, Bool.not_false, dU, cond_true, DL b (by omega), Option.bind_some, Bool.false_or]
    cases hb : gR b
    · simp
    · simp only [Bool.not_true, cond_false, uR, Bool.and_self, if_true]
      obtain ⟨x, e, hx⟩ := RN ha hb _ 0 rfl (Nat.zero_le _)
      simp only [Int.natCast_zero, List.drop_zero] at e hx
      rw [e]
      rcases hx with ⟨rfl, h⟩ | ⟨v, rfl, h⟩
      · rw [h]
        simp only [Option.bind_some, Sum.elim_inl, rW]
        unfold oU
        by_cases h1 : a.length < b.length
        · simp [h1]
        · by_cases h2 : b.length < a.length <;> simp [h1, h2]
      · rw [h]; rfl

end Go.Abs
namespace Go.Abs
open Go
def jE (e : aB) : aD := ⟨e.At, e.Net⟩

def gA (r : List aI) (f : List aD) : List aB → List (List aI × List aD)
  | [] => [(r, f)]
  | e :: l => if e.Row = r then gA r (f ++ [jE e]) l else (r, f) :: gA e.Row [jE e] l

def groups : List aB → List (List aI × List aD)
  | [] => []
  | e :: l => gA e.Row [jE e] l

def itG {σ : Type} (y : σ → List aI → List aD → Option (σ × Bool)) : List (List aI × List aD) → σ → Option σ
  | [], s => some s
  | g :: gs, s => (y s g.1 g.2).bind fun x => if x.2 then itG y gs x.1 else some x.1

def okL (l : List aB) : Prop := l.length ≤ 3518437208783 ∧ ∀ e ∈ l, e.Row.length ≤ 4398046510976

theorem PF {r : List aI} (h : r.length ≤ 4398046510976) : xR r = some r := by
  unfold xR
  rw [aT ⟨by omega, by omega, by omega⟩, aT (by simp only [List.length_nil, Nat.zero_add]; omega)]
  rfl

theorem OF {σ : Type} {y : σ → List aI → List aD → Option (σ × Bool)} {l : List aB} (hl : okL l) (row : List aI) (sg : σ) : ∀ (r : List aB) (k : Nat) (f : List aD), l.drop k = r → k ≤ l.length → f.length ≤ k →
    ∃ k' f', k ≤ k' ∧ k' ≤ l.length ∧ f'.length ≤ k' ∧ lp (fun s : σ × Int × List aD => jH y l row s.1 s.2.1 s.2.2) (sg, (k : Int), f) = some (sg, ((k' : Nat) : Int), f') ∧
      gA row f r = (row, f') :: groups (l.drop k') ∧ (∀ e r', r = e :: r' → e.Row = row → k < k')
  | [], k, f, hd, hk, hf => by
    have : k = l.length := by
      have := congrArg List.length hd
      simp only [List.length_drop, List.length_nil] at this; omega
    subst this
    refine ⟨l.length, f, Nat.le_refl _, Nat.le_refl _, hf, cM ?_, by simp [gA, groups], fun e r' h => by cases h⟩
    show jH _ _ _ _ _ _ = _
    simp only [jH, cY, dU, cond_false, Option.bind_some, Bool.false_and]
    exact aT (fun h => by cases h)
  | a :: r, k, f, hd, hk, hf => by
    obtain ⟨h1, h2⟩ := drop_cons hd
    have hlt : k < l.length := (List.getElem?_eq_some_iff.1 h1).1
    obtain ⟨hll, hlr⟩ := hl
    obtain ⟨d1, d2, d3, d4⟩ := idx h1 (by omega)
    have har := hlr a (List.mem_of_getElem? h1)
    have hb : (fun s : σ × Int × List aD => jH y l row s.1 s.2.1 s.2.2) (sg, (k : Int), f) = some (if a.Row = row then .inl (sg, ((k + 1 : Nat) : Int), f ++ [jE a]) else .inr (sg, (k : Int), f)) := by
      show jH _ _ _ _ _ _ = _
      simp only [jH, d1, d3, d4, dU, cond_true, aAk a.Row row (by omega), Option.bind_some, Bool.true_and]
      rw [aT (fun _ => d2)]
      by_cases e : a.Row = row
      · simp only [e, decide_true, cond_true, if_true]
        rw [aT d2, aT d2, aT (by simp only [List.length_cons, List.length_nil]; omega)]
        rfl
      · simp [e]
    by_cases e : a.Row = row
    · rw [if_pos e] at hb
      obtain ⟨k', f', g1, g2, g3, g4, g5, _⟩ := OF ⟨hll, hlr⟩ row sg r (k + 1) (f ++ [jE a]) h2 (by omega) (by simp; omega) (y := y)
      refine ⟨k', f', by omega, g2, g3, by rw [dS hb]; exact g4, by simp [gA, e, g5], fun _ _ _ _ => by omega⟩
    · rw [if_neg e] at hb
      refine ⟨k, f, Nat.le_refl _, hk, hf, cM hb, ?_, fun b r' h hr => by cases h; exact absurd hr e⟩
      rw [hd]; simp [gA, e, groups]

theorem ZE {σ : Type} {y : σ → List aI → List aD → Option (σ × Bool)} {l : List aB} (hl : okL l) : ∀ (m k : Nat) (sg s' : σ), l.length - k ≤ m → k ≤ l.length → itG y (groups (l.drop k)) sg = some s' →
    ∃ x, lp (fun s : σ × Int => gU y l s.1 s.2) (sg, (k : Int)) = some x ∧ Sum.elim id id x = s' := by
  have stop : ∀ (sg s' : σ), itG y (groups (l.drop l.length)) sg = some s' → ∃ x, lp (fun s : σ × Int => gU y l s.1 s.2) (sg, ((l.length : Nat) : Int)) = some x ∧ Sum.elim id id x = s' := by
    intro sg s' h
    rw [List.drop_length] at h
    simp only [groups, itG, Option.some.injEq] at h
    refine ⟨.inl sg, cM ?_, h⟩
    show gU _ _ _ _ = _
    simp only [gU, cY, cond_false]
  intro m
  induction m with
  | zero =>
    intro k sg s' hm hk h
    have : k = l.length := by omega
    subst this; exact stop sg s' h
  | succ m ih =>
    intro k sg s' hm hk h
    by_cases he : k = l.length
    · subst he; exact stop sg s' h
    · have hlt : k < l.length := by omega
      have hd : l.drop k = l[k] :: l.drop (k + 1) := List.drop_eq_getElem_cons hlt
      obtain ⟨d1, d2, d3, d4⟩ := idx (List.getElem?_eq_getElem hlt) (by have := hl.1; omega)
      obtain ⟨k', f', g1, g2, g3, g4, g5, g6⟩ := OF hl l[k].Row sg (l.drop k) k [] rfl hk (by simp) (y := y)
      have hk' := g6 _ _ hd rfl
      have hg : groups (l.drop k) = (l[k].Row, f') :: groups (l.drop k') := by
        rw [← g5, hd]; simp [groups, gA]
      rw [hg] at h
      simp only [itG] at h
      obtain ⟨x, hx, h⟩ := bB h
      have hrow := hl.2 _ (List.getElem_mem hlt)
      have hb : (fun s : σ × Int => gU y l s.1 s.2) (sg, (k : Int)) = some (if x.2 then .inl (x.1, ((k' : Nat) : Int)) else .inr (.inr x.1)) := by
        show gU _ _ _ _ = _
        simp only [gU, d1, cond_true, aT d2, d3, uP, g4, Option.bind_some, rY, PF hrow, hx]
        cases x.2 <;> simp
      cases hx2 : x.2
      · rw [hx2] at hb h
        simp only [Bool.false_eq_true, if_false, Option.some.injEq] at hb h
        exact ⟨_, cM hb, h⟩
      · rw [hx2] at hb h
        simp only [if_true] at hb h
        obtain ⟨z, hz1, hz2⟩ := ih k' x.1 s' (by omega) g2 h
        exact ⟨z, by rw [dS hb]; exact hz1, hz2⟩

theorem XY {σ : Type} {y : σ → List aI → List aD → Option (σ × Bool)} {l : List aB} (hl : okL l) {s s' : σ} (h : itG y (groups l) s = some s') : qO y l s = some s' := by
  unfold qO uN
  obtain ⟨x, h1, h2⟩ := ZE hl l.length 0 s s' (by omega) (Nat.zero_le _) (by simpa using h)
  simp only [Int.natCast_zero] at h1
  rw [h1]
  cases x <;> simpa using h2

def ahd (last : Option (List aI)) (r : List aI) : Bool := match last with
  | none => true
  | some q => decide (eT q r < 0)

def BJ (p : List aD → Bool) : Option (List aI) → List (List aI × List aD) → Bool
  | _, [] => true
  | last, g :: gs => (gR g.1 && ahd last g.1 && p g.2) && BJ p (some g.1) gs

theorem YI {holds : List aD → Option Bool} {p : List aD → Bool} (hp : ∀ f, holds f = some (p f)) (c : List aB) (t : Bool) : ∀ (gs : List (List aI × List aD)) (last : List aI) (b : Bool), (b = true → gR last = true) →
    ∃ x, itG (fun st r f => rnd (fun (s : Bool × (List aI) × Bool) => rX holds c s.1 s.2.1 s.2.2 r f) st) gs (.inl (t, last, b)) = some x ∧
      (if BJ p (if b then some last else none) gs then ∃ u, x = .inl (t, u) else ∃ u, x = .inr (false, u))
  | [], last, b, _ => ⟨_, rfl, by simp [BJ]⟩
  | g :: gs, last, b, hb => by
    have hy : rX holds c t last b g.1 g.2 = some (if gR g.1 && ahd (if b then some last else none) g.1 && p g.2 then .inl (t, g.1, true) else .inr (false, last, b)) := by
      unfold rX
      simp only [LK, Option.bind_some, RL, hp]
      cases hm : gR g.1
      · simp [dU]
      · cases b
        · cases h2 : p g.2 <;> simp [dU, ahd, h2]
        · have hl := hb rfl
          by_cases h1 : eT last g.1 < 0
          · have h1' : ¬ (0 ≤ eT last g.1) := by omega
            cases h2 : p g.2 <;> simp [dU, ahd, h2, hl, h1, h1']
          · have h1' : 0 ≤ eT last g.1 := by omega
            simp [dU, ahd, hl, h1, h1']
    cases hc : (gR g.1 && ahd (if b then some last else none) g.1 && p g.2)
    · rw [hc] at hy
      simp only [itG, rnd, hy, Option.bind_some, BJ, hc]
      exact ⟨.inr (false, last, b), by simp, by simp⟩
    · rw [hc] at hy
      simp only [itG, rnd, hy, Option.bind_some, BJ, hc]
      have hm : gR g.1 = true := by simp only [Bool.and_eq_true] at hc; exact hc.1.1
      obtain ⟨x, h1, h2⟩ := YI hp c t gs g.1 true (fun _ => hm)
      refine ⟨x, ?_, ?_⟩
      · simpa [rnd] using h1
      · simpa using h2

theorem aCI {l : List aB} (hl : okL l) {holds : List aD → Option Bool} {p : List aD → Bool} (hp : ∀ f, holds f = some (p f)) : yU l holds = some (decide (l.length ≤ 4096) && BJ p none (groups l)) := by
  unfold yU
  by_cases h : l.length ≤ 4096
  · have h1 : decide ((4096 : Int) < ((l.length : Nat) : Int)) = false := by simp; omega
    rw [h1, cond_false]
    simp only [wA, Option.bind_some, AX]
    obtain ⟨x, e1, e2⟩ := YI hp l false (groups l) [] false (fun h => by cases h)
    rw [XY hl e1]
    simp only [Bool.false_eq_true, if_false] at e2
    simp only [h, decide_true, Bool.true_and]
    cases hc : BJ p none (groups l)
    · rw [hc] at e2
      simp only [Bool.false_eq_true, if_false] at e2
      obtain ⟨u, rfl⟩ := e2
      rfl
    · rw [hc] at e2
      simp only [if_true] at e2
      obtain ⟨u, rfl⟩ := e2
      rfl
  · have h1 : decide ((4096 : Int) < ((l.length : Nat) : Int)) = true := by simp; omega
    rw [h1, cond_true]
    simp [h]

def mY (l : List aB) : Bool := decide (l.length ≤ 4096) && BJ qU none (groups l)

theorem PX {l : List aB} (hl : okL l) : tF l = some (mY l) := by
  unfold tF
  rw [aCI hl (p := qU) (fun f => aBg f)]; rfl

def fD (r : List aI) (f : List aD) : List aB := f.map fun j => ⟨r, j.At, j.Net⟩

theorem put_eq {out : List aB} {r : List aI} {f : List aD} (hr : r.length ≤ 4398046510976) (hl : out.length + f.length ≤ 1099511627776) : AQ out r f = some (out ++ fD r f) := by
  unfold AQ CP
  rw [mV (l := f) (body := fun s : List aB × Int => rM r f (f.length : Nat) s.1 s.2) (fun o i => (o, i)) (fun o t => o ++ fD r t) (fun o t => o.length + t.length ≤ 1099511627776) out ?_ ?_ hl]
  · rfl
  · intro i a t o ha hi
    left
    obtain ⟨d1, d2, d3, d4⟩ := idx ha (by have := (List.getElem?_eq_some_iff.1 ha).1; omega)
    simp only [List.length_cons] at hi
    refine ⟨o ++ [⟨r, a.At, a.Net⟩], ?_, by simp; omega, by simp [fD]⟩
    show rM _ _ _ _ _ = _
    simp only [rM, d1, cond_true, aT d2, d3, d4, PF hr, Option.bind_some]
    exact aT (by simp only [List.length_cons, List.length_nil]; omega)
  · intro o _
    show rM _ _ _ _ _ = _
    simp only [rM, cY, cond_false]
    simp [fD]

def tZ (by1 : List aD → List aD × Int) : List (List aI × List aD) → List aB → List aB × Int
  | [], out => (out, 0)
  | g :: gs, out => if (by1 g.2).2 ≠ 0 then ([], (by1 g.2).2) else if 4096 < (out ++ fD g.1 (by1 g.2).1).length then ([], 7) else tZ by1 gs (out ++ fD g.1 (by1 g.2).1)

theorem QG {by0 : List aD → Option (List aD × Int)} {by1 : List aD → List aD × Int} (c : List aB) : ∀ (gs : List (List aI × List aD)) (out : List aB), out.length ≤ 4096 → (∀ g ∈ gs, by0 g.2 = some (by1 g.2) ∧ (by1 g.2).1.length ≤ 1024 ∧ g.1.length ≤ 4398046510976) →
    ∃ x, itG (fun st r f => rnd (fun (s : (List aB) × Int × List aB) => pJ by0 c s.1 s.2.1 s.2.2 r f) st) gs (.inl ([], 0, out)) = some x ∧ Sum.elim (fun s : (List aB) × Int × List aB => (s.2.2, (0 : Int))) (fun s => (s.1, s.2.1)) x = tZ by1 gs out
  | [], out, _, _ => ⟨_, rfl, rfl⟩
  | g :: gs, out, ho, hg => by
    obtain ⟨h1, h2, h3⟩ := hg g (by simp)
    have hy : pJ by0 c [] 0 out g.1 g.2 = some (if (by1 g.2).2 ≠ 0 then .inr ([], (by1 g.2).2, out) else if 4096 < (out ++ fD g.1 (by1 g.2).1).length then .inr ([], 7, out ++ fD g.1 (by1 g.2).1) else .inl ([], 0, out ++ fD g.1 (by1 g.2).1)) := by
      unfold pJ
      simp only [h1, Option.bind_some, put_eq h3 (show out.length + (by1 g.2).1.length ≤ 1099511627776 by omega)]
      by_cases e1 : (by1 g.2).2 = 0
      · by_cases e2 : 4096 < (out ++ fD g.1 (by1 g.2).1).length
        · have e2' : (4096 : Int) < (((out ++ fD g.1 (by1 g.2).1).length : Nat) : Int) := by omega
          simp only [e1, e2, e2', decide_true, Bool.not_true, cond_false, cond_true, ne_eq, not_true_eq_false, if_false, if_true]
        · have e2' : ¬ (4096 : Int) < (((out ++ fD g.1 (by1 g.2).1).length : Nat) : Int) := by omega
          simp only [e1, e2, e2', decide_true, decide_false, Bool.not_true, cond_false, ne_eq, not_true_eq_false, if_false]
      · simp only [e1, decide_false, Bool.not_false, cond_true, ne_eq, not_false_eq_true, if_true]
    simp only [itG, rnd, hy, Option.bind_some, tZ]
    by_cases e1 : (by1 g.2).2 ≠ 0
    · rw [if_pos e1, if_pos e1]; exact ⟨_, rfl, rfl⟩
    · rw [if_neg e1, if_neg e1]
      by_cases e2 : 4096 < (out ++ fD g.1 (by1 g.2).1).length
      · rw [if_pos e2, if_pos e2]; exact ⟨_, rfl, rfl⟩
      · rw [if_neg e2, if_neg e2]
        exact QG c gs _ (by omega) (fun q hq => hg q (by simp [hq]))

theorem aAL {l : List aB} (hl : okL l) {by0 : List aD → Option (List aD × Int)} {by1 : List aD → List aD × Int} (hb : ∀ g ∈ groups l, by0 g.2 = some (by1 g.2) ∧ (by1 g.2).1.length ≤ 1024 ∧ g.1.length ≤ 4398046510976) : vR l by0 = some (tZ by1 (groups l) []) := by
  unfold vR
  simp only [wA, Option.bind_some, xY]
  obtain ⟨x, e1, e2⟩ := QG (by0 := by0) (by1 := by1) l (groups l) [] (by simp) hb
  rw [XY hl e1]
  cases x <;> simpa using e2

def flat (gs : List (List aI × List aD)) : List aB := gs.flatMap fun g => fD g.1 g.2

theorem PS : ∀ (l : List aB) (r : List aI) (f : List aD), flat (gA r f l) = fD r f ++ l
  | [], r, f => by simp [gA, flat]
  | e :: l, r, f => by
    unfold gA
    split
    · rename_i h
      rw [PS l r]
      simp [fD, jE, ← h]
    · have := PS l e.Row [jE e]
      simp only [flat, List.flatMap_cons] at this ⊢
      rw [this]
      simp [fD, jE]

theorem CL (l : List aB) : flat (groups l) = l := by
  cases l with
  | nil => rfl
  | cons e l => unfold groups; rw [PS]; simp [fD, jE]

theorem VL {r : List aI} : ∀ {l : List aB} {f : List aD} {g : List aI × List aD}, g ∈ gA r f l → f ≠ [] → g.2 ≠ [] ∧ (g.1 = r ∨ ∃ e ∈ l, g.1 = e.Row)
  | [], f, g, h, hf => by simp only [gA, List.mem_singleton] at h; subst h; exact ⟨hf, .inl rfl⟩
  | e :: l, f, g, h, hf => by
    unfold gA at h
    split at h
    · obtain ⟨h1, h2⟩ := VL h (by simp)
      exact ⟨h1, h2.imp id fun ⟨x, hx, hx'⟩ => ⟨x, by simp [hx], hx'⟩⟩
    · rcases List.mem_cons.1 h with rfl | h
      · exact ⟨hf, .inl rfl⟩
      · obtain ⟨h1, h2⟩ := VL (r := e.Row) h (by simp)
        refine ⟨h1, .inr ?_⟩
        rcases h2 with h2 | ⟨x, hx, hx'⟩
        · exact ⟨e, by simp, h2⟩
        · exact ⟨x, by simp [hx], hx'⟩

theorem HP {l : List aB} {g : List aI × List aD} (h : g ∈ groups l) : g.2 ≠ [] ∧ ∃ e ∈ l, g.1 = e.Row := by
  cases l with
  | nil => simp [groups] at h
  | cons e l =>
    obtain ⟨h1, h2⟩ := VL h (by simp)
    refine ⟨h1, ?_⟩
    rcases h2 with h2 | ⟨x, hx, hx'⟩
    · exact ⟨e, by simp, h2⟩
    · exact ⟨x, by simp [hx], hx'⟩

end Go.Abs
namespace Go.Abs
open Go
def dD (l : List aB) (r : List aI) : List aD := (l.filter fun e => decide (e.Row = r)).map jE

theorem GN (a b : List aB) (r : List aI) : dD (a ++ b) r = dD a r ++ dD b r := by simp [dD]

theorem RR (q : List aI) (f : List aD) (r : List aI) : dD (fD q f) r = if q = r then f else [] := by
  induction f with
  | nil => simp [dD, fD]
  | cons j f ih =>
    have h1 : fD q (j :: f) = [⟨q, j.At, j.Net⟩] ++ fD q f := rfl
    rw [h1, GN, ih]
    by_cases h : q = r <;> simp [dD, jE, h]

def look : List (List aI × List aD) → List aI → List aD
  | [], _ => []
  | g :: gs, r => if g.1 = r then g.2 else look gs r

theorem FQ (g : List aI × List aD) (gs : List (List aI × List aD)) (r : List aI) : look (g :: gs) r = if g.1 = r then g.2 else look gs r := rfl

abbrev ltG (a b : List aI × List aD) : Prop := eT a.1 b.1 < 0

abbrev zV (gs : List (List aI × List aD)) : Prop := gs.Pairwise ltG

abbrev Full (gs : List (List aI × List aD)) : Prop := ∀ g ∈ gs, g.2 ≠ []

theorem xE {a : List aI} : ¬ eT a a < 0 := by rw [(mI.eq a a).2 rfl]; omega

theorem RA : ∀ {gs : List (List aI × List aD)} {r : List aI}, (∀ g ∈ gs, g.1 ≠ r) → look gs r = []
  | [], _, _ => rfl
  | g :: gs, r, h => by
    rw [FQ]
    rw [if_neg (h g (by simp))]
    exact RA fun q hq => h q (by simp [hq])

theorem aAb (gs : List (List aI × List aD)) (r : List aI) : (look gs r = [] ∧ ∀ g ∈ gs, g.1 ≠ r) ∨ ∃ g ∈ gs, g.1 = r ∧ look gs r = g.2 := by
  induction gs with
  | nil => exact .inl ⟨rfl, by simp⟩
  | cons g gs ih =>
    rw [FQ]
    by_cases h : g.1 = r
    · rw [if_pos h]; exact .inr ⟨g, by simp, h, rfl⟩
    · rw [if_neg h]
      rcases ih with ⟨h1, h2⟩ | ⟨q, hq, h1, h2⟩
      · refine .inl ⟨h1, fun q hq => ?_⟩
        rcases List.mem_cons.1 hq with rfl | hq
        · exact h
        · exact h2 q hq
      · exact .inr ⟨q, by simp [hq], h1, h2⟩

theorem MW {gs : List (List aI × List aD)} (hs : zV gs) {g : List aI × List aD} (hg : g ∈ gs) : look gs g.1 = g.2 := by
  induction gs with
  | nil => simp at hg
  | cons q gs ih =>
    have hs' := List.pairwise_cons.1 hs
    rw [FQ]
    rcases List.mem_cons.1 hg with rfl | hg
    · rw [if_pos rfl]
    · rw [if_neg (fun e => by have := hs'.1 g hg; simp only [ltG, e] at this; exact xE this)]
      exact ih hs'.2 hg

theorem xA (g : List aI × List aD) (gs : List (List aI × List aD)) : flat (g :: gs) = fD g.1 g.2 ++ flat gs := rfl

theorem KW : ∀ {gs : List (List aI × List aD)}, zV gs → ∀ r, dD (flat gs) r = look gs r
  | [], _, r => rfl
  | g :: gs, hs, r => by
    have hs' := List.pairwise_cons.1 hs
    rw [xA, GN, RR, KW hs'.2, FQ]
    by_cases h : g.1 = r
    · rw [if_pos h, if_pos h, RA, List.append_nil]
      intro q hq e
      have := hs'.1 q hq
      simp only [ltG, h, e] at this; exact xE this
    · rw [if_neg h, if_neg h]; rfl

theorem FM {p : List aD → Bool} : ∀ {gs : List (List aI × List aD)} {last : Option (List aI)}, BJ p last gs = true ↔ (∀ g ∈ gs, gR g.1 = true ∧ p g.2 = true) ∧ zV gs ∧ (∀ q, last = some q → ∀ g ∈ gs, eT q g.1 < 0)
  | [], last => by simp [BJ]
  | g :: gs, last => by
    unfold BJ
    simp only [Bool.and_eq_true, FM (gs := gs), List.mem_cons, List.pairwise_cons]
    constructor
    · rintro ⟨⟨⟨h1, h2⟩, h3⟩, h4, h5, h6⟩
      refine ⟨?_, ⟨fun q hq => h6 _ rfl q hq, h5⟩, ?_⟩
      · rintro q (rfl | hq)
        · exact ⟨h1, h3⟩
        · exact h4 q hq
      · rintro q rfl x (rfl | hx)
        · simpa [ahd] using h2
        · simp only [ahd, decide_eq_true_eq] at h2
          exact mI.trans _ _ _ h2 (h6 _ rfl x hx)
    · rintro ⟨h1, ⟨h2, h3⟩, h4⟩
      refine ⟨⟨⟨(h1 g (.inl rfl)).1, ?_⟩, (h1 g (.inl rfl)).2⟩, fun q hq => h1 q (.inr hq), h3, ?_⟩
      · unfold ahd
        split
        · rfl
        · exact decide_eq_true (h4 _ rfl g (.inl rfl))
      · rintro q hq x hx
        cases hq
        exact h2 x hx

theorem xT {l : List aB} (h : mY l = true) : l.length ≤ 4096 ∧ (∀ g ∈ groups l, gR g.1 = true ∧ qU g.2 = true) ∧ zV (groups l) := by
  simp only [mY, Bool.and_eq_true, decide_eq_true_eq] at h
  obtain ⟨h1, h2, _⟩ := FM.1 h.2
  exact ⟨h.1, h1, h2⟩

theorem aAp {l : List aB} (h : mY l = true) (r : List aI) : qU (look (groups l) r) = true := by
  rcases aAb (groups l) r with ⟨h1, _⟩ | ⟨g, hg, _, h1⟩
  · rw [h1]; exact aDb
  · rw [h1]; exact ((xT h).2.1 g hg).2

theorem DX {l : List aB} (h : zV (groups l)) (r : List aI) : look (groups l) r = dD l r := by
  rw [← KW h, CL]

theorem XU (r : List aI) (f : List aD) (e : aB) (l : List aB) : gA r f (e :: l) = if e.Row = r then gA r (f ++ [jE e]) l else (r, f) :: gA e.Row [jE e] l := rfl

theorem WB (r : List aI) : ∀ (f2 f : List aD) (l : List aB), gA r f (fD r f2 ++ l) = gA r (f ++ f2) l
  | [], f, l => by simp [fD]
  | j :: f2, f, l => by
    show gA r f (⟨r, j.At, j.Net⟩ :: (fD r f2 ++ l)) = _
    rw [XU, if_pos rfl, WB r f2]
    simp [jE]

theorem RB : ∀ {gs : List (List aI × List aD)}, zV gs → Full gs → groups (flat gs) = gs
  | [], _, _ => rfl
  | (r, f) :: gs, hs, hf => by
    have hs' := List.pairwise_cons.1 hs
    have hne := hf (r, f) (by simp)
    have ih := RB hs'.2 (fun g hg => hf g (by simp [hg]))
    cases f with
    | nil => exact absurd rfl hne
    | cons j f =>
      rw [xA]
      show gA r [jE ⟨r, j.At, j.Net⟩] (fD r f ++ flat gs) = _
      rw [WB]
      have key : ∀ (F : List aD), gA r F (flat gs) = (r, F) :: groups (flat gs) := by
        intro F
        cases gs with
        | nil => rfl
        | cons g gs =>
          obtain ⟨q, f'⟩ := g
          have hq := hf (q, f') (by simp)
          cases f' with
          | nil => exact absurd rfl hq
          | cons j' f' =>
            have hqr : q ≠ r := fun e => by
              have := hs'.1 (q, j' :: f') (by simp)
              simp only [ltG, e] at this; exact xE this
            rw [xA]
            show gA r F (⟨q, j'.At, j'.Net⟩ :: (fD q f' ++ flat gs)) = _
            rw [gA, if_neg hqr]
            rfl
      rw [key, ih]
      rfl

def MJ (gs : List (List aI × List aD)) : List (List aI × List aD) := gs.filter fun g => !g.2.isEmpty

theorem JC : ∀ (gs : List (List aI × List aD)), flat (MJ gs) = flat gs
  | [] => rfl
  | (r, []) :: gs => by
    have : MJ ((r, []) :: gs) = MJ gs := rfl
    rw [this, JC gs, xA]; rfl
  | (r, j :: f) :: gs => by
    have : MJ ((r, j :: f) :: gs) = (r, j :: f) :: MJ gs := rfl
    rw [this, xA, xA, JC gs]

theorem aBr (gs : List (List aI × List aD)) : Full (MJ gs) := by
  intro g hg
  have := (List.mem_filter.1 hg).2
  intro h; rw [h] at this; simp at this

theorem OJ {gs : List (List aI × List aD)} (hs : zV gs) : groups (flat gs) = MJ gs := by
  rw [← JC]
  exact RB (hs.filter _) (aBr gs)

theorem aA3 {gs : List (List aI × List aD)} (hs : zV gs) (hm : ∀ g ∈ gs, gR g.1 = true ∧ qU g.2 = true) (hl : (flat gs).length ≤ 4096) : mY (flat gs) = true := by
  simp only [mY, Bool.and_eq_true, decide_eq_true_eq]
  refine ⟨hl, FM.2 ?_⟩
  rw [OJ hs]
  exact ⟨fun g hg => hm g (List.mem_filter.1 hg).1, hs.filter _, by simp⟩

def PZ (by1 : List aD → List aD × Int) (gs : List (List aI × List aD)) : List (List aI × List aD) := gs.map fun g => (g.1, (by1 g.2).1)

theorem aCm {by1 : List aD → List aD × Int} {gs : List (List aI × List aD)} (hs : zV gs) : zV (PZ by1 gs) := by
  rw [zV, PZ, List.pairwise_map]; exact hs

theorem XV {by1 : List aD → List aD × Int} : ∀ {gs : List (List aI × List aD)} {out : List aB}, out.length ≤ 4096 → (tZ by1 gs out).2 = 0 → (∀ g ∈ gs, (by1 g.2).2 = 0) ∧ (tZ by1 gs out).1 = out ++ flat (PZ by1 gs) ∧ (tZ by1 gs out).1.length ≤ 4096
  | [], out, ho, _ => by simp [tZ, PZ, flat, ho]
  | g :: gs, out, ho, h => by
    unfold tZ at h ⊢
    by_cases e1 : (by1 g.2).2 = 0
    · rw [if_neg (by simp [e1])] at h ⊢
      by_cases e2 : 4096 < (out ++ fD g.1 (by1 g.2).1).length
      · rw [if_pos e2] at h; simp at h
      · rw [if_neg e2] at h ⊢
        obtain ⟨h1, h2, h3⟩ := XV (by omega) h
        refine ⟨?_, ?_, h3⟩
        · intro q hq
          rcases List.mem_cons.1 hq with rfl | hq
          · exact e1
          · exact h1 q hq
        · rw [h2]; simp [PZ, xA]
    · rw [if_pos e1] at h; exact absurd h e1

theorem UL {by1 : List aD → List aD × Int} : ∀ {gs : List (List aI × List aD)} {out : List aB}, (tZ by1 gs out).2 ≠ 0 → (tZ by1 gs out).1 = []
  | [], out, h => by simp [tZ] at h
  | g :: gs, out, h => by
    unfold tZ at h ⊢
    split
    · rfl
    · rename_i e1
      rw [if_neg e1] at h
      split
      · rfl
      · rename_i e2
        rw [if_neg e2] at h
        exact UL h

theorem aA8 {l : List aB} (hl : okL l) {g : List aI × List aD} (hg : g ∈ groups l) : g.1.length ≤ 4398046510976 := by
  obtain ⟨_, e, he, h⟩ := HP hg
  rw [h]; exact hl.2 e he

theorem WV {f g : List aB} (hl : okL f) : xP f g = some (decide (f = g)) := by
  unfold xP
  by_cases he : f.length = g.length
  · rw [SZ he, cond_false]
    unfold zH
    have := SH (f := f) (g := g) (body := fun s => sO f g s) he ?_ ?_ f.length 0 rfl (Nat.zero_le _)
    · simp only [Int.natCast_zero, List.drop_zero] at this
      rw [this]
      by_cases h : f = g <;> simp [h, vB]
    · intro i x y hx hy
      have hll := hl.1
      obtain ⟨d1, d2, d3, d4⟩ := idx hx (by omega)
      obtain ⟨_, e2, e3, _⟩ := idx hy (by omega)
      have hr := hl.2 x (List.mem_of_getElem? hx)
      simp only [sO, d1, cond_true, aT d2, aT e2, d3, e3, d4, dU]
      rw [aT (fun _ => d2), aT (fun _ => e2), aT (fun _ => d2), aT (fun _ => e2), DF x.Row y.Row (by omega)]
      obtain ⟨x1, x2, x3⟩ := x
      obtain ⟨y1, y2, y3⟩ := y
      by_cases h1 : x2 = y2 <;> by_cases h2 : x3 = y3 <;> by_cases h3 : x1 = y1 <;> simp [h1, h2, h3]
    · simp only [sO, cY, cond_false]
  · rw [WA he, cond_true]
    have : f ≠ g := fun h => he (by rw [h])
    simp [this]

end Go.Abs
namespace Go.Abs
theorem aAU : @eA = @pG aB _ := rfl

theorem aAh : @eK = @eO aB _ := rfl

theorem WC (cmp) : ∀ k, @iT cmp k = @eR aB _ cmp k
  | 0 => rfl
  | k + 1 => by
    show eK cmp _ = eO cmp _
    rw [WC cmp k, aAh]

theorem aAR : @fI = @rF aB _ := by
  funext d a m b cmp
  unfold fI rF
  simp only [WC]

theorem TN : @fX = @AI aB _ := by
  funext d n cmp
  unfold fX AI jV CQ
  unfold jN nZ fR CF
  unfold jJ CJ jT kX
  unfold jS yI jW oD
  unfold fP yK
  rw [aAR, aAU]
  rfl

end Go.Abs
namespace Go.Abs
open Go
theorem JU {l : List aB} {f : aB → Option Bool} {g : aB → Bool} (hl : l.length ≤ 1099511627776) (hf : ∀ x ∈ l, f x = some (g x)) : dH l f = some (l.any g) := by
  unfold dH gO gE
  obtain ⟨x, e, hx⟩ := IC hl hf l 0 rfl (Nat.zero_le _)
  have e' : lp (fun s => gC f l (l.length : Nat) s) 0 = some x := e
  rw [e']
  rcases hx with ⟨rfl, h⟩ | ⟨i, rfl, _, _, h, _⟩
  · simp [eC, h]
  · simp [h]

def unE (e : aB) : Bool := ((!gR e.Row) || (decide ((1048576 : Int) < e.Net))) || (decide (e.Net < (-1048576 : Int)))

def EV (e : aB) : Bool := (decide (e.At < (-1 : Int))) || (decide ((1125899906842624 : Int) < e.At))

def ZV (x y : aB) : Int := if eT x.Row y.Row ≠ 0 then eT x.Row y.Row else oU x.At y.At

abbrev okE (x : aB) : Prop := gR x.Row = true

abbrev leE (x y : aB) : Prop := eT x.Row y.Row < 0 ∨ (x.Row = y.Row ∧ x.At ≤ y.At)

theorem or_eq (a b : Int) : xD [a, b] = some (if a ≠ 0 then a else b) := by
  unfold xD zF
  have w1 : IntKind.i64.wrap (1 : Int) = 1 := by rw [fA] <;> omega
  have w2 : IntKind.i64.wrap (2 : Int) = 2 := by rw [fA] <;> omega
  have b0 : (fun s => iV 0 [a, b] (([a, b] : List Int).length : Nat) s) (0 : Int) = some (if a ≠ 0 then .inr (.inr a) else .inl 1) := by
    show iV _ _ _ _ = _
    unfold iV
    rw [aT ⟨by omega, by simp⟩]
    by_cases h : a = 0 <;> simp [h, w1]
  have b1 : (fun s => iV 0 [a, b] (([a, b] : List Int).length : Nat) s) (1 : Int) = some (if b ≠ 0 then .inr (.inr b) else .inl 2) := by
    show iV _ _ _ _ = _
    unfold iV
    rw [aT ⟨by omega, by simp⟩]
    by_cases h : b = 0 <;> simp [h, w2]
  have b2 : (fun s => iV 0 [a, b] (([a, b] : List Int).length : Nat) s) (2 : Int) = some (.inr (.inl ())) := by
    show iV _ _ _ _ = _
    unfold iV
    simp
  by_cases h : a = 0
  · rw [if_neg (by simp [h])] at b0
    rw [dS b0]
    by_cases h2 : b = 0
    · rw [if_neg (by simp [h2])] at b1
      rw [dS b1, cM b2]
      simp [vD, h, h2]
    · rw [if_pos h2] at b1
      rw [cM b1]
      simp [h]
  · rw [if_pos h] at b0
    rw [cM b0]
    simp [h]

theorem aCJ {x y : aB} (hx : okE x) (hy : okE y) : oR x y = some (ZV x y) := by
  unfold oR ZV
  rw [RL, hx, hy]
  simp only [Bool.and_self, if_true, Option.bind_some, QX, or_eq]

theorem aC7 (x y : aB) : ZV x y < 0 ↔ ¬ leE y x := by
  unfold ZV leE
  have ha := mI.anti x.Row y.Row
  have hb := mI.anti y.Row x.Row
  have he := mI.eq x.Row y.Row
  by_cases h : eT x.Row y.Row = 0
  · rw [if_neg (by simp [h])]
    have e := he.1 h
    have : ¬ eT y.Row x.Row < 0 := by rw [e]; exact xE
    unfold oU
    constructor
    · intro h1 h2
      rcases h2 with h2 | ⟨_, h2⟩
      · exact this h2
      · split at h1
        · omega
        · split at h1 <;> omega
    · intro h1
      have : ¬ y.At ≤ x.At := fun h2 => h1 (.inr ⟨e.symm, h2⟩)
      rw [if_pos (by omega)]; omega
  · rw [if_pos h]
    have hne : y.Row ≠ x.Row := fun e => h (he.2 e.symm)
    constructor
    · intro h1 h2
      rcases h2 with h2 | ⟨h2, _⟩
      · have := hb.1 h2; omega
      · exact hne h2
    · intro h1
      have : ¬ eT y.Row x.Row < 0 := fun h2 => h1 (.inl h2)
      rw [hb] at this
      omega

theorem aBe (x y : aB) : leE x y ∨ leE y x := by
  unfold leE
  by_cases h : eT x.Row y.Row = 0
  · have e := (mI.eq _ _).1 h
    rcases Int.le_total x.At y.At with h1 | h1
    · exact .inl (.inr ⟨e, h1⟩)
    · exact .inr (.inr ⟨e.symm, h1⟩)
  · by_cases h1 : eT x.Row y.Row < 0
    · exact .inl (.inl h1)
    · exact .inr (.inl ((mI.anti _ _).2 (by omega)))

theorem aBa {x y z : aB} (h1 : leE x y) (h2 : leE y z) : leE x z := by
  rcases h1 with h1 | ⟨e1, h1⟩ <;> rcases h2 with h2 | ⟨e2, h2⟩
  · exact .inl (mI.trans _ _ _ h1 h2)
  · exact .inl (e2 ▸ h1)
  · exact .inl (e1.symm ▸ h2)
  · exact .inr ⟨e1.trans e2, by omega⟩

theorem aEp : Cmp okE leE (fun y0 y1 => oR y0 y1) where
  ans x y hx hy := ⟨_, aCJ hx hy, aC7 x y⟩
  trans x y z _ _ _ h1 h2 := aBa h1 h2
  total x y _ _ := aBe x y

theorem aD6 {l : List aB} (hl : l.length ≤ 1099511627776) (ho : ∀ e ∈ l, okE e) : ∃ r, r.Perm l ∧ Srt leE r ∧ dP l (fun y0 y1 => oR y0 y1) = some r := by
  obtain ⟨r, r1, r2, r3⟩ := RJ aEp (d := l) ho hl
  refine ⟨r, r1, r2, ?_⟩
  unfold dP
  rw [TN, r3]; rfl

theorem VZ : ∀ {l : List aB} {r : List aI} {f : List aD}, Srt leE l → (∀ e ∈ l, e.Row = r ∨ eT r e.Row < 0) → zV (gA r f l) ∧ ∀ g ∈ gA r f l, g.1 = r ∨ eT r g.1 < 0
  | [], r, f, _, _ => by simp [gA]
  | e :: l, r, f, hs, hr => by
    have hs' := List.pairwise_cons.1 hs
    rw [XU]
    by_cases h : e.Row = r
    · rw [if_pos h]
      exact VZ hs'.2 (fun x hx => hr x (by simp [hx]))
    · rw [if_neg h]
      have hlt : eT r e.Row < 0 := (hr e (by simp)).resolve_left h
      obtain ⟨h1, h2⟩ := VZ (r := e.Row) (f := [jE e]) hs'.2 (fun x hx => by
        rcases hs'.1 x hx with h | ⟨h, _⟩
        · exact .inr h
        · exact .inl h.symm)
      have key : ∀ g ∈ gA e.Row [jE e] l, eT r g.1 < 0 := fun g hg => by
        rcases h2 g hg with h | h
        · rw [h]; exact hlt
        · exact mI.trans _ _ _ hlt h
      refine ⟨List.pairwise_cons.2 ⟨key, h1⟩, ?_⟩
      intro g hg
      rcases List.mem_cons.1 hg with rfl | hg
      · exact .inl rfl
      · exact .inr (key g hg)

theorem yA {l : List aB} (hs : Srt leE l) : zV (groups l) := by
  cases l with
  | nil => exact List.Pairwise.nil
  | cons e l =>
    have hs' := List.pairwise_cons.1 hs
    exact (VZ hs'.2 (fun x hx => by
      rcases hs'.1 x hx with h | ⟨h, _⟩
      · exact .inr h
      · exact .inl h.symm)).1

abbrev JK (rs : List (List aI)) : Prop := rs.Pairwise fun a b => eT a b < 0

def tH (r : List aI) : List (List aI) → List (List aI)
  | [] => [r]
  | x :: xs => if eT x r < 0 then x :: tH r xs else if x = r then x :: xs else r :: x :: xs

def rowsOf (l : List aB) : List (List aI) := l.foldl (fun rs e => tH e.Row rs) []

theorem IK {r x : List aI} : ∀ {rs : List (List aI)}, x ∈ tH r rs ↔ x = r ∨ x ∈ rs
  | [] => by simp [tH]
  | y :: ys => by
    unfold tH
    split
    · simp only [List.mem_cons, IK (rs := ys)]
      constructor
      · rintro (h | h | h)
        · exact .inr (.inl h)
        · exact .inl h
        · exact .inr (.inr h)
      · rintro (h | h | h)
        · exact .inr (.inl h)
        · exact .inl h
        · exact .inr (.inr h)
    · split
      · rename_i h; subst h; simp
      · simp

theorem TS {r : List aI} : ∀ {rs : List (List aI)}, JK rs → JK (tH r rs)
  | [], _ => by simp [tH]
  | y :: ys, hs => by
    have hs' := List.pairwise_cons.1 hs
    unfold tH
    split
    · rename_i h
      refine List.pairwise_cons.2 ⟨fun z hz => ?_, TS hs'.2⟩
      rcases IK.1 hz with rfl | hz
      · exact h
      · exact hs'.1 z hz
    · rename_i h
      split
      · exact hs
      · rename_i hne
        have hlt : eT r y < 0 := by
          have h0 : eT y r ≠ 0 := fun e => hne ((mI.eq _ _).1 e)
          exact (mI.anti _ _).2 (by omega)
        refine List.pairwise_cons.2 ⟨fun z hz => ?_, hs⟩
        rcases List.mem_cons.1 hz with rfl | hz
        · exact hlt
        · exact mI.trans _ _ _ hlt (hs'.1 z hz)

theorem JF : ∀ (l : List aB) (rs : List (List aI)), JK rs → JK (l.foldl (fun rs e => tH e.Row rs) rs) ∧ ∀ x, x ∈ l.foldl (fun rs e => tH e.Row rs) rs ↔ x ∈ rs ∨ ∃ e ∈ l, e.Row = x
  | [], rs, hs => ⟨hs, by simp⟩
  | e :: l, rs, hs => by
    obtain ⟨h1, h2⟩ := JF l (tH e.Row rs) (TS hs)
    refine ⟨h1, fun x => ?_⟩
    simp only [List.foldl_cons]
    rw [h2 x, IK]
    simp only [List.mem_cons, exists_eq_or_imp]
    constructor
    · rintro ((h | h) | h)
      · exact .inr (.inl h.symm)
      · exact .inl h
      · exact .inr (.inr h)
    · rintro (h | h | h)
      · exact .inl (.inr h)
      · exact .inl (.inl h.symm)
      · exact .inr h

theorem NT (l : List aB) : JK (rowsOf l) := (JF l [] List.Pairwise.nil).1

theorem BA {l : List aB} {x : List aI} : x ∈ rowsOf l ↔ ∃ e ∈ l, e.Row = x := by
  have := (JF l [] List.Pairwise.nil).2 x
  simpa [rowsOf] using this

theorem VD : ∀ {a b : List (List aI)}, JK a → JK b → (∀ x, x ∈ a ↔ x ∈ b) → a = b
  | [], [], _, _, _ => rfl
  | [], y :: ys, _, _, h => absurd ((h y).2 (by simp)) (by simp)
  | x :: xs, [], _, _, h => absurd ((h x).1 (by simp)) (by simp)
  | x :: xs, y :: ys, ha, hb, h => by
    have ha' := List.pairwise_cons.1 ha
    have hb' := List.pairwise_cons.1 hb
    have e : x = y := by
      rcases List.mem_cons.1 ((h x).1 (by simp)) with h1 | h1
      · exact h1
      · rcases List.mem_cons.1 ((h y).2 (by simp)) with h2 | h2
        · exact h2.symm
        · exact absurd (mI.trans _ _ _ (hb'.1 x h1) (ha'.1 y h2)) xE
    subst e
    rw [VD ha'.2 hb'.2 fun z => ?_]
    constructor
    · intro hz
      rcases List.mem_cons.1 ((h z).1 (by simp [hz])) with h1 | h1
      · subst h1; exact absurd (ha'.1 z hz) xE
      · exact h1
    · intro hz
      rcases List.mem_cons.1 ((h z).2 (by simp [hz])) with h1 | h1
      · subst h1; exact absurd (hb'.1 z hz) xE
      · exact h1

def KJ (l : List aB) : List (List aI × List aD) := (rowsOf l).map fun r => (r, dD l r)

theorem aBM (l : List aB) : zV (KJ l) := by
  rw [zV, KJ, List.pairwise_map]; exact NT l

theorem VE {a b : List aB} (h : a.Perm b) (r : List aI) : (dD a r).Perm (dD b r) := (h.filter _).map _

theorem XC {l l' : List aB} (hp : l'.Perm l) (hs : Srt leE l') : (groups l').map (·.1) = rowsOf l := by
  refine VD ?_ (NT l) fun x => ?_
  · rw [JK, List.pairwise_map]; exact yA hs
  · rw [BA]
    constructor
    · intro h
      obtain ⟨g, hg, rfl⟩ := List.mem_map.1 h
      obtain ⟨_, e, he, h1⟩ := HP hg
      exact ⟨e, hp.mem_iff.1 he, h1.symm⟩
    · rintro ⟨e, he, rfl⟩
      have he' : e ∈ flat (groups l') := by rw [CL]; exact hp.mem_iff.2 he
      obtain ⟨g, hg, h1⟩ := List.mem_flatMap.1 he'
      obtain ⟨j, _, rfl⟩ := List.mem_map.1 h1
      exact List.mem_map.2 ⟨g, hg, rfl⟩

theorem aCb {l : List aD} (ht : ∀ j ∈ l, -2 < j.At) : Up (-2) (CT l) :=
  HL (by rw [List.map_map]; simpa [Function.comp_def] using KA ht)

theorem aAI {l : List aD} (ht : ∀ j ∈ l, -2 < j.At) {t : Int} (h1 : -2 < t) (h2 : t < 1125899906842624) : val (CT l) t = val l t := by
  have h0 : val l (-2) = 0 := JP fun j hj => ht j hj
  have := JZ (F := val l) (KA ht) (fun s t' _ hst hlt hn => KC hst fun j hj hc => hn j.At (MT.2 (Or.inr ⟨j, List.mem_filter.2 ⟨hj, by simp; omega⟩, rfl⟩)) hc) t (by omega) h2
  rw [h0] at this
  unfold CT
  rw [this]; omega

theorem ZK {f g : List aD} (h : f.Perm g) (hf : f.any uM = false) : CT f = CT g := by
  have hg : ∀ j ∈ g, -2 < j.At := fun j hj => (IF hf j (h.mem_iff.2 hj)).1
  exact VU (fun j hj => (IF hf j hj).1) (aCb hg) fun t h1 h2 => by rw [aAI hg h1 h2, VR h]

theorem ML {f g : List aD} (h : f.Perm g) (p : aD → Bool) : f.any p = g.any p := by
  cases h1 : g.any p
  · rw [List.any_eq_false] at h1 ⊢
    exact fun x hx => h1 x (h.mem_iff.1 hx)
  · obtain ⟨x, hx, hp⟩ := List.any_eq_true.1 h1
    exact List.any_eq_true.2 ⟨x, h.mem_iff.2 hx, hp⟩

theorem ZY {f g : List aD} (h : f.Perm g) : lG f = lG g := by
  unfold lG
  rw [ML h sD, ML h uM]
  split
  · rfl
  · split
    · rfl
    · rename_i h2
      rw [ZK h (by rw [ML h uM]; simpa using h2)]

theorem JJ (l : List aD) : (lG l).1.length ≤ 1024 := by
  unfold lG
  split
  · simp
  · split
    · simp
    · exact aBV _

theorem NW {by1 : List aD → List aD × Int} : ∀ {gs hs : List (List aI × List aD)} {out : List aB}, gs.map (fun g => (g.1, by1 g.2)) = hs.map (fun g => (g.1, by1 g.2)) → tZ by1 gs out = tZ by1 hs out
  | [], [], _, _ => rfl
  | [], _ :: _, _, h => by simp at h
  | _ :: _, [], _, h => by simp at h
  | g :: gs, k :: hs, out, h => by
    simp only [List.map_cons, List.cons.injEq, Prod.mk.injEq] at h
    obtain ⟨⟨h1, h2⟩, h3⟩ := h
    unfold tZ
    rw [h1, h2]
    split
    · rfl
    · split
      · rfl
      · exact NW h3

theorem WS {l l' : List aB} (hp : l'.Perm l) (hs : Srt leE l') : (groups l').map (fun g => (g.1, lG g.2)) = (KJ l).map (fun g => (g.1, lG g.2)) := by
  have h1 : (groups l').map (fun g => (g.1, lG g.2)) = ((groups l').map (·.1)).map (fun r => (r, lG (dD l r))) := by
    rw [List.map_map]
    apply List.map_congr_left
    intro g hg
    have hj : g.2 = dD l' g.1 := by rw [← DX (yA hs), MW (yA hs) hg]
    simp only [Function.comp]
    rw [hj, ZY (VE hp g.1)]
  rw [h1, XC hp hs, KJ, List.map_map]
  rfl

def tN (l : List aB) : List aB × Int := if l.any unE then ([], 2) else if l.any EV then ([], 13) else tZ lG (KJ l) []

theorem GY {l : List aB} (h : l.any unE = false) : ∀ e ∈ l, gR e.Row = true ∧ e.Net ≤ 1048576 ∧ -1048576 ≤ e.Net := by
  intro e he
  have := List.any_eq_false.1 h e he
  simp only [unE, Bool.or_eq_true, not_or, Bool.not_eq_true', decide_eq_true_eq, Bool.not_eq_false, Bool.not_eq_true] at this
  exact ⟨by simpa using this.1.1, by omega, by omega⟩

theorem aBH {l : List aB} (hl : okL l) (hn : l.length ≤ 1099511627776) : yS l = some (tN l) := by
  unfold yS tN
  rw [JU (g := unE) hn (fun x _ => by simp [vW, LK, unE])]
  simp only [Option.bind_some]
  cases h1 : l.any unE
  · rw [JU (f := fun y0 => vH y0) (g := EV) hn (fun x _ => rfl)]
    simp only [cond_false, Option.bind_some, Bool.false_eq_true, if_false]
    cases h2 : l.any EV
    · simp only [cond_false, Bool.false_eq_true, if_false]
      have hc : fS l = some l := by unfold fS; exact aT ⟨by omega, by omega⟩
      obtain ⟨r, r1, r2, r3⟩ := aD6 hn (fun e he => (GY h1 e he).1)
      rw [hc]
      simp only [Option.bind_some]
      rw [r3]
      simp only [Option.bind_some]
      have hr : okL r := ⟨by rw [r1.length_eq]; exact hl.1, fun e he => hl.2 e (r1.mem_iff.1 he)⟩
      rw [aAL hr (by1 := lG) (fun g hg => ⟨by
        unfold vS
        have hgl : g.2.length ≤ 1099511627776 := by
          have h3 : g.2 = dD r g.1 := by rw [← DX (yA r2), MW (yA r2) hg]
          rw [h3, dD, List.length_map]
          exact Nat.le_trans (List.length_filter_le _ _) (by rw [r1.length_eq]; exact hn)
        rw [norm_eq hgl]; rfl, JJ _, aA8 hr hg⟩)]
      simp only [Option.bind_some]
      rw [NW (WS r1 r2)]
    · simp
  · simp

theorem TK {l : List aB} (h : (tN l).2 = 0) : l.any unE = false ∧ l.any EV = false ∧ (∀ g ∈ KJ l, (lG g.2).2 = 0) ∧ (tN l).1 = flat (PZ lG (KJ l)) ∧ (tN l).1.length ≤ 4096 := by
  unfold tN at h ⊢
  cases h1 : l.any unE
  · rw [h1] at h
    simp only [Bool.false_eq_true, if_false] at h ⊢
    cases h2 : l.any EV
    · rw [h2] at h
      simp only [Bool.false_eq_true, if_false] at h ⊢
      obtain ⟨a, b, c⟩ := XV (by simp) h
      exact ⟨trivial, trivial, a, by simpa using b, c⟩
    · rw [h2] at h; simp at h
  · rw [h1] at h; simp at h

theorem aB5 {f : List aD} (h : (lG f).2 = 0) : f.any sD = false ∧ f.any uM = false ∧ qU (CT f) = true ∧ lG f = (CT f, 0) := by
  unfold lG at h ⊢
  cases h1 : f.any sD
  · rw [h1] at h
    simp only [Bool.false_eq_true, if_false] at h ⊢
    cases h2 : f.any uM
    · rw [h2] at h
      simp only [Bool.false_eq_true, if_false] at h ⊢
      unfold told at h ⊢
      cases h3 : qU (CT f)
      · rw [h3] at h; simp at h
      · simp
    · rw [h2] at h; simp at h
  · rw [h1] at h; simp at h

theorem aAD {l : List aB} (h : (tN l).2 = 0) : mY (tN l).1 = true := by
  obtain ⟨h1, _, h3, h4, h5⟩ := TK h
  rw [h4] at h5 ⊢
  refine aA3 (aCm (aBM l)) (fun g hg => ?_) h5
  obtain ⟨q, hq, rfl⟩ := List.mem_map.1 hg
  have h6 := aB5 (h3 q hq)
  obtain ⟨r, hr, rfl⟩ := List.mem_map.1 hq
  obtain ⟨e, he, rfl⟩ := BA.1 hr
  exact ⟨(GY h1 e he).1, by rw [h6.2.2.2]; exact h6.2.2.1⟩

theorem YX {l : List aB} (h : (tN l).2 ≠ 0) : (tN l).1 = [] := by
  unfold tN at h ⊢
  split
  · rfl
  · rename_i h1
    rw [if_neg h1] at h
    split
    · rfl
    · rename_i h2
      rw [if_neg h2] at h
      exact UL h

end Go.Abs
namespace Go.Abs
open Go
theorem aBb {ls : List (List aB)} (hl : ls.length ≤ 1000) (hb : ∀ l ∈ ls, l.length ≤ 1000000) : lp (fun s : Int × Int => cP ls ls (ls.length : Nat) s.1 s.2) (0, 0) = some (((ls.map List.length).sum : Nat) : Int) := by
  have := mV (l := ls) (body := fun s : Int × Int => cP ls ls (ls.length : Nat) s.1 s.2) (fun (n : Nat) i => ((n : Int), i)) (fun n r => ((n + (r.map List.length).sum : Nat) : Int)) (fun n r => n + 1000000 * r.length ≤ 1000000000 ∧ ∀ x ∈ r, x.length ≤ 1000000) 0 ?_ ?_ ⟨by omega, hb⟩
  · simpa using this
  · rintro i a r n ha ⟨h1, h2⟩
    left
    obtain ⟨d1, d2, d3, d4⟩ := idx ha (by omega)
    simp only [List.length_cons] at h1
    have h3 := h2 a (by simp)
    have hw : IntKind.i64.wrap ((n : Int) + ((a.length : Nat) : Int)) = ((n + a.length : Nat) : Int) := by rw [fA (by omega) (by omega)]; omega
    refine ⟨n + a.length, ?_, ⟨by omega, fun x hx => h2 x (by simp [hx])⟩, by simp; omega⟩
    show cP _ _ _ _ _ = _
    have hz : decide (((n + a.length : Nat) : Int) < 0) = false := by simp; omega
    simp only [cP, d1, cond_true, aT d2, d3, d4, hw, hz, cond_false]
  · rintro n _
    show cP _ _ _ _ _ = _
    simp only [cP, cY, cond_false]
    simp

theorem aDj {n : Nat} (h : n ≤ 1000000000) : fW (n : Int) = some [] := by
  unfold fW
  have h1 : decide ((n : Int) < 0) = false := by simp
  have w0 : IntKind.i64.wrap ((0 : Int) - ((0 : Nat) : Int)) = 0 := by rw [fA] <;> omega
  have w1 : IntKind.i64.wrap ((n : Int) - 0) = (n : Int) := by rw [fA (by omega) (by omega)]; omega
  simp only [h1, cond_false, w0, w1]
  by_cases h2 : (0 : Int) < (n : Int)
  · rw [decide_eq_true h2, cond_true, aT ⟨by omega, by omega⟩, aT ⟨by omega, by simp only [Int.toNat_natCast]; omega, by omega⟩, aT ⟨by omega, by omega⟩]
    rfl
  · rw [decide_eq_false h2, cond_false]; rfl

theorem aBh {ls : List (List aB)} (hl : ls.length ≤ 1000) (hb : ∀ l ∈ ls, l.length ≤ 1000000) : lp (fun s : List aB × Int => cQ ls (ls.length : Nat) s.1 s.2) ([], 0) = some ls.flatten := by
  have := mV (l := ls) (body := fun s : List aB × Int => cQ ls (ls.length : Nat) s.1 s.2) (fun o i => (o, i)) (fun o r => o ++ r.flatten) (fun o r => o.length + 1000000 * r.length ≤ 1000000000 ∧ ∀ x ∈ r, x.length ≤ 1000000) [] ?_ ?_ ⟨by simp; omega, hb⟩
  · simpa using this
  · rintro i a r o ha ⟨h1, h2⟩
    left
    obtain ⟨d1, d2, d3, d4⟩ := idx ha (by omega)
    simp only [List.length_cons] at h1
    have h3 := h2 a (by simp)
    refine ⟨o ++ a, ?_, ⟨by simp; omega, fun x hx => h2 x (by simp [hx])⟩, by simp⟩
    show cQ _ _ _ _ = _
    simp only [cQ, d1, cond_true, aT d2, d3, d4]
    exact aT ⟨by omega, by omega⟩
  · rintro o _
    show cQ _ _ _ _ = _
    simp only [cQ, cY, cond_false]
    simp

theorem aBd {a b : List aB} (ha : a.length ≤ 1000000) (hb : b.length ≤ 1000000) : fF [a, b] = some (a ++ b) := by
  have hx : ∀ l ∈ [a, b], l.length ≤ 1000000 := by simp [ha, hb]
  unfold fF iO
  rw [aBb (by simp) hx]
  simp only [Option.bind_some, eY]
  rw [aDj (by simp; omega)]
  simp only [Option.bind_some, iL]
  rw [aBh (by simp) hx]
  simp [eX]

def BY (a b : List aB) : List aB × Int := if mY a && mY b then tN (a ++ b) else ([], 2)

theorem IG {a b : List aB} (ha : okL a) (hb : okL b) (h : a.length + b.length ≤ 3518437208783) : okL (a ++ b) :=
  ⟨by simpa using h, fun e he => by
    rcases List.mem_append.1 he with h | h
    · exact ha.2 e h
    · exact hb.2 e h⟩

theorem aDo {a b : List aB} (ha : okL a) (hb : okL b) : AP a b = some (BY a b) := by
  unfold AP BY
  rw [PX ha]
  cases h1 : mY a
  · simp [dU]
  · simp only [Option.bind_some, Bool.not_true, Bool.not_false, dU, cond_true, PX hb, Bool.false_or]
    cases h2 : mY b
    · simp
    · have la := (xT h1).1
      have lb := (xT h2).1
      simp only [Bool.not_true, cond_false, Bool.and_self, if_true]
      rw [aBd (by omega) (by omega)]
      simp only [Option.bind_some]
      rw [aBH (IG ha hb (by omega)) (by simp; omega)]
      rfl

end Go.Abs
namespace Go.Abs
open Go
theorem GW : okL [] := ⟨by simp, by simp⟩

theorem aCn {gs : List (List aI × List aD)} (h : ∀ g ∈ gs, g.1.length ≤ 4398046510976) (hl : (flat gs).length ≤ 4096) : okL (flat gs) := by
  refine ⟨by omega, fun e he => ?_⟩
  obtain ⟨g, hg, h1⟩ := List.mem_flatMap.1 he
  obtain ⟨j, _, rfl⟩ := List.mem_map.1 h1
  exact h g hg

theorem aAt {l : List aB} (hl : okL l) : okL (tN l).1 := by
  by_cases h : (tN l).2 = 0
  · obtain ⟨_, _, _, h4, h5⟩ := TK h
    rw [h4] at h5 ⊢
    refine aCn (fun g hg => ?_) h5
    obtain ⟨q, hq, rfl⟩ := List.mem_map.1 hg
    obtain ⟨r, hr, rfl⟩ := List.mem_map.1 hq
    obtain ⟨e, he, rfl⟩ := BA.1 hr
    exact hl.2 e he
  · rw [YX h]; exact GW

end Go.Abs
namespace Go.Abs
open Go
theorem aAE {out : List aB} {r : List aI} {f : List aD} (hr : r.length ≤ 4398046510976) (hl : out.length + f.length ≤ 1099511627776) : yQ out r f = some (out ++ fD r f) := by
  unfold yQ BL
  rw [mV (l := f) (body := fun s : List aB × Int => qJ r f s.1 s.2) (fun o i => (o, i)) (fun o t => o ++ fD r t) (fun o t => o.length + t.length ≤ 1099511627776) out ?_ ?_ hl]
  · rfl
  · intro i a t o ha hi
    left
    obtain ⟨d1, d2, d3, d4⟩ := idx ha (by have := (List.getElem?_eq_some_iff.1 ha).1; omega)
    simp only [List.length_cons] at hi
    refine ⟨o ++ [⟨r, a.At, a.Net⟩], ?_, by simp; omega, by simp [fD]⟩
    show qJ _ _ _ _ = _
    simp only [qJ, d1, cond_true, aT d2, d3, d4]
    rw [aT ⟨by omega, by omega⟩]
    exact aT (by simp only [List.length_cons, List.length_nil]; omega)
  · intro o _
    show qJ _ _ _ _ = _
    simp only [qJ, cY, cond_false]
    simp [fD]

theorem RH (r : List aI) (f : List aD) : (fD r f).length = f.length := by simp [fD]

theorem YY {l : List aB} (hm : mY l = true) {e : aB} (he : e ∈ l) : gR e.Row = true ∧ -2 < e.At ∧ e.At < 1125899906842624 ∧ e.Net ≠ 0 ∧ e.Net ≤ 1048576 ∧ -1048576 ≤ e.Net := by
  obtain ⟨_, h2, _⟩ := xT hm
  have he' : e ∈ flat (groups l) := by rw [CL]; exact he
  obtain ⟨g, hg, h1⟩ := List.mem_flatMap.1 he'
  obtain ⟨j, hj, rfl⟩ := List.mem_map.1 h1
  obtain ⟨a, b⟩ := h2 g hg
  exact ⟨a, (EA.1 b).2.above j hj⟩

theorem NQ {l : List aB} (hm : mY l = true) (r : List aI) : qU (dD l r) = true := by
  rw [← DX (xT hm).2.2]; exact aAp hm r

end Go.Abs
namespace Go.Abs
open Go
theorem MD {l : List aB} (hl : okL l) (hn : l.length ≤ 1099511627776) {r : List aI} : sV l r = some (dD l r) := by
  unfold sV xS
  rw [mV (l := l) (body := fun s : List aD × Int => nR l r s.1 s.2) (fun o i => (o, i)) (fun o t => o ++ dD t r) (fun o t => o.length + t.length ≤ 1099511627776) [] ?_ ?_ (by simpa using hn)]
  · rfl
  · intro i a t o ha hi
    left
    obtain ⟨d1, d2, d3, d4⟩ := idx ha (by omega)
    simp only [List.length_cons] at hi
    have hr := hl.2 a (List.mem_of_getElem? ha)
    have hb : nR l r o (i : Int) = some (.inl (if a.Row = r then o ++ [jE a] else o, ((i + 1 : Nat) : Int))) := by
      simp only [nR, tY, d1, cond_true, aT d2, d3, d4, DF a.Row r (by omega), Option.bind_some]
      by_cases e : a.Row = r
      · simp only [e, decide_true, cond_true, if_true]
        rw [aT (by simp only [List.length_cons, List.length_nil]; omega)]; rfl
      · simp [e]
    refine ⟨_, hb, ?_, ?_⟩
    · split
      · simp; omega
      · omega
    · by_cases e : a.Row = r <;> simp [dD, e]
  · intro o _
    show nR _ _ _ _ = _
    simp only [nR, cY, cond_false]
    simp [dD]

theorem MU (r : List aI) : ∀ rs : List (List aI), (tH r rs).length ≤ rs.length + 1
  | [] => by simp [tH]
  | x :: xs => by
    unfold tH
    split
    · simp only [List.length_cons]; have := MU r xs; omega
    · split <;> simp

def yD (r : List aI) : List (List aI) → Nat
  | [] => 0
  | x :: xs => if eT x r < 0 then yD r xs + 1 else 0

theorem YK (r : List aI) : ∀ rs, yD r rs ≤ rs.length
  | [] => by simp [yD]
  | x :: xs => by unfold yD; split <;> simp [YK r xs]

theorem VK (r : List aI) : ∀ rs, tH r rs = if rs[yD r rs]? = some r then rs else rs.take (yD r rs) ++ [r] ++ rs.drop (yD r rs)
  | [] => by simp [tH]
  | x :: xs => by
    unfold tH yD
    by_cases h : eT x r < 0
    · rw [if_pos h, if_pos h, VK r xs]
      simp only [List.getElem?_cons_succ, List.take_succ_cons, List.drop_succ_cons]
      split <;> simp
    · rw [if_neg h, if_neg h]
      by_cases e : x = r <;> simp [e]

theorem NK {l : List aB} {rs : List (List aI)} {e : aB} {i : Nat} (hi : l[i]? = some e) (hl : okL l) (he : gR e.Row = true) (hr : ∀ x ∈ rs, gR x = true) (hn : rs.length ≤ 1099511627776) : ∀ (t : List (List aI)) (k : Nat), rs.drop k = t → k ≤ rs.length →
    lp (fun s : List (List aI) × Int => nE l (i : Int) s.1 s.2) (rs, (k : Int)) = some (rs, ((k + yD e.Row t : Nat) : Int))
  | [], k, hd, hk => by
    have : k = rs.length := by
      have := congrArg List.length hd
      simp only [List.length_drop, List.length_nil] at this; omega
    subst this
    refine cM ?_
    show nE _ _ _ _ = _
    simp only [nE, cY, dU, cond_false, Option.bind_some, Bool.false_and]
    rw [aT (fun h => by cases h), aT (fun h => by cases h)]
    simp [yD]
  | x :: t, k, hd, hk => by
    obtain ⟨h1, h2⟩ := drop_cons hd
    have hlt := (List.getElem?_eq_some_iff.1 h1).1
    obtain ⟨d1, d2, d3, d4⟩ := idx h1 (by omega)
    obtain ⟨_, c2, c3, _⟩ := idx hi (by have := hl.1; omega)
    have hx := hr x (List.mem_of_getElem? h1)
    have hb : (fun s : List (List aI) × Int => nE l (i : Int) s.1 s.2) (rs, (k : Int)) = some (if eT x e.Row < 0 then .inl (rs, ((k + 1 : Nat) : Int)) else .inr (rs, (k : Int))) := by
      show nE _ _ _ _ = _
      simp only [nE, d1, dU, cond_true, d3, c3, d4, Bool.true_and]
      rw [aT (fun _ => d2), aT (fun _ => c2), KH x e.Row (by have := (AF hx).1; omega) (by have := (AF he).1; omega), hx, he]
      simp only [Bool.and_self, if_true, Option.bind_some]
      by_cases h : eT x e.Row < 0 <;> simp [h]
    unfold yD
    by_cases h : eT x e.Row < 0
    · rw [if_pos h] at hb
      rw [dS hb, NK hi hl he hr hn t (k + 1) h2 (by omega), if_pos h]
      congr 3; omega
    · rw [if_neg h] at hb
      rw [cM hb, if_neg h]; rfl

theorem OB {l : List aB} (hl : okL l) (hm : ∀ e ∈ l, gR e.Row = true) (hn : l.length ≤ 1099511627776) : tT l = some (rowsOf l) := by
  unfold tT zD
  rw [mV (l := l) (body := fun s : List (List aI) × Int => oM l s.1 s.2) (fun o i => (o, i)) (fun o t => t.foldl (fun rs e => tH e.Row rs) o) (fun o t => o.length + t.length ≤ 1099511627776 ∧ ∀ x ∈ o, gR x = true) [] ?_ ?_ ⟨by simpa using hn, by simp⟩]
  · rfl
  · rintro i e t rs hi ⟨h1, h2⟩
    left
    obtain ⟨d1, d2, d3, d4⟩ := idx hi (by omega)
    have he := hm e (List.mem_of_getElem? hi)
    simp only [List.length_cons] at h1
    refine ⟨tH e.Row rs, ?_, ⟨by have := MU e.Row rs; omega, fun x hx => by
      rcases IK.1 hx with rfl | h
      · exact he
      · exact h2 x h⟩, rfl⟩
    show oM _ _ _ = _
    have hin := NK hi hl he h2 (by omega) rs 0 rfl (Nat.zero_le _)
    simp only [Int.natCast_zero, Nat.zero_add] at hin
    have hple := YK e.Row rs
    simp only [oM, d1, cond_true, zT, hin, Option.bind_some, vU, vQ, d3, d4]
    rw [VK]
    by_cases hp : yD e.Row rs < rs.length
    · have hx : rs[yD e.Row rs]? = some rs[yD e.Row rs] := List.getElem?_eq_getElem hp
      obtain ⟨f1, f2, f3, _⟩ := idx hx (by omega)
      have hrow := h2 _ (List.mem_of_getElem? hx)
      simp only [f1, f3, dU, cond_true, Bool.true_and]
      rw [aT (fun _ => f2), aT (fun _ => d2), DF _ _ (by have := (AF hrow).1; omega)]
      by_cases hq : rs[yD e.Row rs] = e.Row
      · simp [hq, hx]
      · simp only [hq, decide_false, cond_false, Option.bind_some, hx, Option.some.injEq, if_false, Int.toNat_natCast]
        rw [aT ⟨by omega, by omega⟩, aT ⟨by simp; omega, by simp; omega⟩, aT d2, aT ⟨by simp; omega, by simp; omega⟩, aT ⟨by omega, by omega⟩, aT ⟨by simp; omega, by simp; omega⟩]
    · have hpe : yD e.Row rs = rs.length := by omega
      rw [hpe]
      simp only [cY, dU, cond_false, Option.bind_some, Bool.false_and]
      rw [aT (fun h => by cases h), aT (fun h => by cases h)]
      have hnone : rs[rs.length]? = none := by simp
      simp only [hnone, reduceCtorEq, if_false, Int.toNat_natCast]
      rw [aT ⟨by omega, by omega⟩, aT ⟨by simp; omega, by simp; omega⟩, aT d2, aT ⟨by simp; omega, by simp; omega⟩, aT ⟨by omega, by omega⟩, aT ⟨by simp; omega, by simp; omega⟩]
  · rintro rs ⟨_, _⟩
    show oM _ _ _ = _
    simp only [oM, cY, cond_false]
    rfl

theorem IS : ∀ (l : List aB) (rs : List (List aI)), (l.foldl (fun rs e => tH e.Row rs) rs).length ≤ rs.length + l.length
  | [], rs => by simp
  | e :: l, rs => by
    have := IS l (tH e.Row rs)
    have := MU e.Row rs
    simp only [List.foldl_cons, List.length_cons]; omega

theorem HR (l : List aB) : (rowsOf l).length ≤ l.length := by
  have := IS l []
  simpa [rowsOf] using this

theorem XE (l : List aB) (r : List aI) : (dD l r).length ≤ l.length := by
  unfold dD; rw [List.length_map]; exact List.length_filter_le _ _

end Go.Abs
namespace Go.Abs
open Go
def wF (by1 : List aD → List aD × Int) : List (List aI × List aD) → List aB → List aB × Int
  | [], out => (out, 0)
  | g :: gs, out => if (by1 g.2).2 ≠ 0 then ([], (by1 g.2).2) else wF by1 gs (out ++ fD g.1 (by1 g.2).1)

def HX (x : List aB × Int) : List aB × Int := if x.2 = 0 ∧ 4096 < x.1.length then ([], 7) else x

theorem TU {by1 : List aD → List aD × Int} : ∀ {gs : List (List aI × List aD)} {out : List aB}, (∀ g ∈ gs, (by1 g.2).2 = 0 ∨ (by1 g.2).2 = 7) → 4096 < out.length → HX (wF by1 gs out) = ([], 7)
  | [], out, _, h => by simp [wF, HX, h]
  | g :: gs, out, he, h => by
    unfold wF
    rcases he g (by simp) with e | e
    · rw [if_neg (by simp [e])]
      exact TU (fun q hq => he q (by simp [hq])) (by rw [List.length_append]; omega)
    · rw [if_pos (by simp [e]), e]; simp [HX]

theorem XS {by1 : List aD → List aD × Int} : ∀ {gs : List (List aI × List aD)} {out : List aB}, (∀ g ∈ gs, (by1 g.2).2 = 0 ∨ (by1 g.2).2 = 7) → out.length ≤ 4096 → HX (wF by1 gs out) = tZ by1 gs out
  | [], out, _, h => by
    have : ¬ 4096 < out.length := by omega
    simp [wF, HX, tZ, this]
  | g :: gs, out, he, h => by
    unfold wF tZ
    rcases he g (by simp) with e | e
    · rw [if_neg (by simp [e]), if_neg (by simp [e])]
      by_cases hl : 4096 < (out ++ fD g.1 (by1 g.2).1).length
      · rw [if_pos hl]; exact TU (fun q hq => he q (by simp [hq])) hl
      · rw [if_neg hl]; exact XS (fun q hq => he q (by simp [hq])) (by omega)
    · rw [if_pos (by simp [e]), if_pos (by simp [e]), e]; simp [HX]

theorem aC0 {by1 : List aD → List aD × Int} {J : List aI → List aD} {rs : List (List aI)} {body : List aB × Int → Option ((List aB × Int) ⊕ (List aB ⊕ (List aB × Int)))} (h1 : ∀ f, (by1 f).1.length ≤ 1024) (hn : rs.length ≤ 1000000)
    (hb : ∀ (i : Nat) r out, rs[i]? = some r → out.length ≤ 1024000000 → body (out, (i : Int)) = some (if (by1 (J r)).2 ≠ 0 then .inr (.inr ([], (by1 (J r)).2)) else .inl (out ++ fD r (by1 (J r)).1, ((i + 1 : Nat) : Int))))
    (he : ∀ out, body (out, (rs.length : Nat)) = some (.inr (.inl out))) : ∃ x, lp body ([], 0) = some x ∧ Sum.elim (fun o => (o, (0 : Int))) id x = wF by1 (rs.map fun r => (r, J r)) [] ∧ (∀ o, x = .inl o → o.length ≤ 1024000000) ∧ ∀ o, x = .inr o → o.2 ≠ 0 := by
  refine ⟨_, mV (l := rs) (body := body) (fun o i => (o, i)) (fun o t => if (wF by1 (t.map fun r => (r, J r)) o).2 = 0 then .inl (wF by1 (t.map fun r => (r, J r)) o).1 else .inr (wF by1 (t.map fun r => (r, J r)) o)) (fun o t => o.length + 1024 * t.length ≤ 1024000000) [] ?_ ?_ (by simp; omega), ?_, ?_, ?_⟩
  · intro i r t o hi hl
    simp only [List.length_cons] at hl
    have := hb i r o hi (by omega)
    have h2 := h1 (J r)
    by_cases e : (by1 (J r)).2 ≠ 0
    · right
      rw [if_pos e] at this
      rw [this]
      simp only [List.map_cons, wF, if_pos e, if_neg e]
    · left
      rw [if_neg e] at this
      refine ⟨_, this, by rw [List.length_append, RH]; omega, ?_⟩
      simp only [List.map_cons, wF, if_neg e]
  · intro o _
    rw [he o]
    simp [wF]
  · cases h : (wF by1 (rs.map fun r => (r, J r)) []) with
    | mk a b =>
      by_cases e : b = 0
      · simp [e]
      · simp [e]
  · intro o ho
    have key : ∀ (gs : List (List aI)) (out : List aB), out.length + 1024 * gs.length ≤ 1024000000 → (wF by1 (gs.map fun r => (r, J r)) out).1.length ≤ 1024000000 := by
      intro gs
      induction gs with
      | nil => intro out h; simpa [wF] using h
      | cons r gs ih =>
        intro out h
        simp only [List.map_cons, wF]
        split
        · simp
        · refine ih _ ?_
          have := h1 (J r)
          simp only [List.length_cons] at h
          rw [List.length_append, RH]; omega
    split at ho
    · simp only [Sum.inl.injEq] at ho
      rw [← ho]; exact key rs [] (by simp; omega)
    · cases ho
  · intro o ho
    split at ho
    · cases ho
    · rename_i h
      simp only [Sum.inr.injEq] at ho
      rw [← ho]; exact h

theorem aEA {j : List aB → Option (List aB × Int)} {y : List aB × Int} {x : List aB ⊕ (List aB × Int)} (hj : ∀ o : List aB, o.length ≤ 1024000000 → j o = some (if 4096 < o.length then ([], 7) else (o, 0))) (hx : Sum.elim (fun o => (o, (0 : Int))) id x = y) (hl : ∀ o, x = .inl o → o.length ≤ 1024000000) (hy : ∀ o, x = .inr o → o.2 ≠ 0) : Sum.elim (fun o => j o) (fun rr : List aB × Int => some (rr.1, rr.2)) x = some (HX y) := by
  cases x with
  | inl o =>
    simp only [Sum.elim_inl] at hx ⊢
    rw [hj o (hl o rfl), ← hx]
    unfold HX
    by_cases h : 4096 < o.length <;> simp [h]
  | inr o =>
    simp only [Sum.elim_inr, id] at hx ⊢
    subst hx
    have := hy o rfl
    simp [HX, this]

theorem aAz {f : List aD} (h1 : f.any sD = false) (h2 : f.any uM = false) : (lG f).2 = 0 ∨ (lG f).2 = 7 := by
  unfold lG
  rw [if_neg (by simp [h1]), if_neg (by simp [h2])]
  unfold told
  split <;> simp

theorem IQ {l : List aB} (h1 : l.any unE = false) (h2 : l.any EV = false) (r : List aI) : (dD l r).any sD = false ∧ (dD l r).any uM = false := by
  constructor
  · refine List.any_eq_false.2 fun j hj => ?_
    obtain ⟨e, he, rfl⟩ := List.mem_map.1 hj
    have := GY h1 e (List.mem_filter.1 he).1
    have h3 : (jE e).Net = e.Net := rfl
    simp only [sD, CD, h3, Bool.not_eq_true', Bool.and_eq_false_iff, decide_eq_false_iff_not, not_or, Decidable.not_not, Bool.not_eq_false, Bool.and_eq_true, decide_eq_true_eq]
    omega
  · refine List.any_eq_false.2 fun j hj => ?_
    obtain ⟨e, he, rfl⟩ := List.mem_map.1 hj
    have := List.any_eq_false.1 h2 e (List.mem_filter.1 he).1
    have h3 : (jE e).At = e.At := rfl
    simp only [EV, Bool.or_eq_true, decide_eq_true_eq, not_or] at this
    simp only [uM, h3, Bool.or_eq_true, decide_eq_true_eq]
    omega

end Go.Abs
namespace Go.Abs
open Go
theorem aB4 {l : List aB} (h1 : l.any unE = false) (h2 : l.any EV = false) : ∀ g ∈ KJ l, (lG g.2).2 = 0 ∨ (lG g.2).2 = 7 := by
  intro g hg
  obtain ⟨r, _, rfl⟩ := List.mem_map.1 hg
  exact aAz (IQ h1 h2 r).1 (IQ h1 h2 r).2

theorem WQ {l : List aB} (hl : okL l) (hn : l.length ≤ 1000000) : xJ l = some (tN l) := by
  unfold xJ zI tN
  rw [CX (l := l) (fun i => i) unE (.inr ([], 2)) (.inl ()) ?_ ?_]
  · cases h1 : l.any unE
    · simp only [Bool.false_eq_true, if_false, Option.bind_some, Sum.elim_inl, vA, zQ]
      rw [CX (l := l) (fun i => i) EV (.inr ([], 13)) (.inl ()) ?_ ?_]
      · cases h2 : l.any EV
        · have hr := OB hl (fun e he => (GY h1 e he).1) (by omega)
          simp only [Bool.false_eq_true, if_false, Option.bind_some, Sum.elim_inl, uZ, hr, zJ]
          have hR := aC0 (by1 := lG) (J := dD l) (rs := rowsOf l) (body := fun s => oN l (rowsOf l) s.1 s.2) JJ (by have := HR l; omega) ?_ ?_
          · obtain ⟨x, e1, e2, e3, e4⟩ := hR
            rw [e1]
            simp only [Option.bind_some]
            have hj : ∀ o : List aB, o.length ≤ 1024000000 → sR o = some (if 4096 < o.length then ([], 7) else (o, 0)) := by
              intro o _
              unfold sR
              by_cases h : 4096 < o.length
              · have h' : (4096 : Int) < ((o.length : Nat) : Int) := by omega
                simp [h, h']
              · have h' : ¬ (4096 : Int) < ((o.length : Nat) : Int) := by omega
                simp [h, h']
            exact (aEA hj e2 e3 e4).trans (congrArg some (XS (aB4 h1 h2) (by simp)))
          · intro i r out hi ho
            have := HR l
            have hlt := (List.getElem?_eq_some_iff.1 hi).1
            obtain ⟨d1, d2, d3, d4⟩ := idx hi (by omega)
            have hrow : gR r = true := by
              obtain ⟨e, he, rfl⟩ := BA.1 (List.mem_of_getElem? hi)
              exact (GY h1 e he).1
            have h8 := (AF hrow).1
            have hjl := XE l r
            have hnl := JJ (dD l r)
            show oN _ _ _ _ = _
            simp only [oN, d1, cond_true, aT d2, d3, d4, MD hl (show l.length ≤ 1099511627776 by omega), Option.bind_some, aAj (show (dD l r).length ≤ 1099511627776 by omega)]
            by_cases e : (lG (dD l r)).2 = 0
            · rw [aAE (by omega) (by omega)]
              simp [e]
            · simp [e]
          · intro out
            show oN _ _ _ _ = _
            simp only [oN, cY, cond_false]
        · simp
      · intro i e hi
        obtain ⟨d1, d2, d3, d4⟩ := idx hi (by omega)
        show qQ _ _ = _
        simp only [qQ, d1, cond_true, aT d2, d3, d4]
        rw [aT (fun _ => d2)]
        unfold EV
        cases h : (decide (e.At < -1) || decide (1125899906842624 < e.At)) <;> simp
      · show qQ _ _ = _
        simp only [qQ, cY, cond_false]
    · simp
  · intro i e hi
    obtain ⟨d1, d2, d3, d4⟩ := idx hi (by omega)
    have hr := hl.2 e (List.mem_of_getElem? hi)
    show qS _ _ = _
    simp only [qS, d1, cond_true, aT d2, d3, d4, DL e.Row (by omega), Option.bind_some]
    rw [aT (fun _ => d2), aT (fun _ => d2)]
    unfold unE
    cases h : (((!gR e.Row) || decide (1048576 < e.Net)) || decide (e.Net < -1048576)) <;> simp
  · show qS _ _ = _
    simp only [qS, cY, cond_false]

abbrev ltE (x y : aB) : Prop := eT x.Row y.Row < 0 ∨ (x.Row = y.Row ∧ x.At < y.At)

theorem aAw {x y z : aB} (h1 : ltE x y) (h2 : ltE y z) : ltE x z := by
  rcases h1 with h1 | ⟨h1, h1'⟩ <;> rcases h2 with h2 | ⟨h2, h2'⟩
  · exact .inl (mI.trans _ _ _ h1 h2)
  · exact .inl (h2 ▸ h1)
  · exact .inl (h1 ▸ h2)
  · exact .inr ⟨h1.trans h2, by omega⟩

theorem FE : ∀ {f : List aD} {last : Int}, GB last f ↔ (∀ j ∈ f, rZ last j = false) ∧ f.Pairwise fun a b => a.At < b.At
  | [], last => by simp [GB]
  | j :: f, last => by
    rw [List.pairwise_cons]
    unfold GB
    rw [← nD]
    constructor
    · rintro ⟨h1, h2⟩
      have h3 := FE.1 h2
      have h4 := nD.1 h1
      refine ⟨fun k hk => ?_, fun k hk => (nD.1 (h3.1 k hk)).1, h3.2⟩
      rcases List.mem_cons.1 hk with rfl | hk
      · exact h1
      · have := nD.1 (h3.1 k hk)
        exact nD.2 (by omega)
    · rintro ⟨h1, h2, h3⟩
      refine ⟨h1 j (by simp), FE.2 ⟨fun k hk => ?_, h3⟩⟩
      have := nD.1 (h1 k (by simp [hk]))
      have := h2 k hk
      exact nD.2 (by omega)

theorem EO {l : List aB} : mY l = true ↔ l.length ≤ 4096 ∧ (∀ e ∈ l, gR e.Row = true ∧ rZ (-2) (jE e) = false) ∧ l.Pairwise ltE ∧ ∀ r ∈ rowsOf l, (dD l r).length ≤ 1024 := by
  constructor
  · intro h
    obtain ⟨h1, h2, h3⟩ := xT h
    refine ⟨h1, fun e he => ?_, ?_, fun r _ => (EA.1 (NQ h r)).1⟩
    · obtain ⟨a, b, c, d, e1, e2⟩ := YY h he
      exact ⟨a, nD.2 ⟨b, c, d, e1, e2⟩⟩
    · rw [← CL l]
      unfold flat
      rw [List.flatMap, List.pairwise_flatten, List.pairwise_map]
      constructor
      · intro x hx
        obtain ⟨g, hg, rfl⟩ := List.mem_map.1 hx
        have := (FE.1 (EA.1 (h2 g hg).2).2).2
        rw [fD, List.pairwise_map]
        exact this.imp fun h => .inr ⟨rfl, h⟩
      · refine h3.imp fun {a b} h x hx y hy => ?_
        obtain ⟨j, _, rfl⟩ := List.mem_map.1 hx
        obtain ⟨k, _, rfl⟩ := List.mem_map.1 hy
        exact .inl h
  · rintro ⟨h1, h2, h3, h4⟩
    have hs : Srt leE l := h3.imp fun h => by
      rcases h with h | ⟨h, h'⟩
      · exact .inl h
      · exact .inr ⟨h, by omega⟩
    have hg := yA hs
    unfold mY
    rw [Bool.and_eq_true]
    refine ⟨by simpa using h1, FM.2 ⟨fun g hg' => ?_, hg, fun q hq => by cases hq⟩⟩
    obtain ⟨_, e, he, h5⟩ := HP hg'
    have hj : g.2 = dD l g.1 := by rw [← DX hg, MW hg hg']
    refine ⟨by rw [h5]; exact (h2 e he).1, ?_⟩
    rw [hj]
    refine EA.2 ⟨h4 _ (BA.2 ⟨e, he, h5.symm⟩), FE.2 ⟨fun j hj => ?_, ?_⟩⟩
    · obtain ⟨e, he, rfl⟩ := List.mem_map.1 hj
      exact (h2 e (List.mem_filter.1 he).1).2
    · unfold dD
      rw [List.pairwise_map, List.pairwise_filter]
      refine h3.imp fun {a b} h ha hb => ?_
      rcases h with h | ⟨_, h⟩
      · simp only [decide_eq_true_eq] at ha hb
        rw [ha, hb] at h
        exact absurd h xE
      · exact h

theorem aCe {α : Type} {R : α → α → Prop} (ht : ∀ {x y z}, R x y → R y z → R x z) {l : List α} : l.Pairwise R ↔ ∀ (i : Nat) (a b : α), l[i]? = some a → l[i + 1]? = some b → R a b := by
  constructor
  · intro h i a b ha hb
    obtain ⟨h1, rfl⟩ := List.getElem?_eq_some_iff.1 ha
    obtain ⟨h2, rfl⟩ := List.getElem?_eq_some_iff.1 hb
    exact List.pairwise_iff_getElem.1 h i (i + 1) h1 h2 (by omega)
  · intro h
    refine List.pairwise_iff_getElem.2 fun i j hi hj hij => ?_
    obtain ⟨k, rfl⟩ : ∃ k, j = i + 1 + k := ⟨j - i - 1, by omega⟩
    clear hij
    induction k with
    | zero => exact h i _ _ (List.getElem?_eq_getElem hi) (List.getElem?_eq_getElem hj)
    | succ k ih => exact ht (ih (by omega)) (h (i + 1 + k) _ _ (List.getElem?_eq_getElem (by omega)) (List.getElem?_eq_getElem hj))

def QC (a b : List aI) : Int := if gR a && gR b then eT a b else 0

def FN (l : List aB) (i : Nat) : Bool := !(gR (l.getD i default).Row && !rZ (-2) (jE (l.getD i default))) || (decide (i ≠ 0) && (decide (0 < QC (l.getD (i - 1) default).Row (l.getD i default).Row) || (decide (QC (l.getD (i - 1) default).Row (l.getD i default).Row = 0) && decide ((l.getD i default).At ≤ (l.getD (i - 1) default).At))))

theorem RM {l : List aB} : (List.range l.length).any (FN l) = false ↔ (∀ e ∈ l, gR e.Row = true ∧ rZ (-2) (jE e) = false) ∧ l.Pairwise ltE := by
  rw [List.any_eq_false, aCe (R := ltE) (fun h1 h2 => aAw h1 h2)]
  constructor
  · intro h
    have h' : ∀ i, i < l.length → FN l i = false := fun i hi => by simpa using h i (List.mem_range.2 hi)
    refine ⟨fun e he => ?_, fun i a b ha hb => ?_⟩
    · obtain ⟨i, hi, rfl⟩ := List.mem_iff_getElem.1 he
      have := h' i hi
      unfold FN at this
      rw [Bool.or_eq_false_iff] at this
      have h1 := this.1
      simp only [List.getD_eq_getElem?_getD, List.getElem?_eq_getElem hi, Option.getD_some, Bool.not_eq_false', Bool.and_eq_true, Bool.not_eq_true'] at h1
      exact h1
    · obtain ⟨hi, rfl⟩ := List.getElem?_eq_some_iff.1 ha
      obtain ⟨hj, rfl⟩ := List.getElem?_eq_some_iff.1 hb
      have := h' (i + 1) hj
      have r1 := h' i hi
      unfold FN at this r1
      rw [Bool.or_eq_false_iff] at this r1
      have h1 := this.2
      have r2 := this.1
      have r1 := r1.1
      simp only [List.getD_eq_getElem?_getD, List.getElem?_eq_getElem hi, List.getElem?_eq_getElem hj, Option.getD_some, Bool.not_eq_false', Bool.and_eq_true, Bool.not_eq_true'] at r1 r2
      simp only [List.getD_eq_getElem?_getD, Nat.add_sub_cancel, List.getElem?_eq_getElem hi, List.getElem?_eq_getElem hj, Option.getD_some, ne_eq, Nat.add_eq_zero_iff, Nat.one_ne_zero, and_false, not_false_eq_true, decide_true, Bool.true_and, Bool.or_eq_false_iff, decide_eq_false_iff_not, Bool.and_eq_false_iff, QC, r1.1, r2.1, Bool.and_self, if_true] at h1
      by_cases hc : eT l[i].Row l[i + 1].Row = 0
      · refine .inr ⟨(mI.eq _ _).1 hc, ?_⟩
        rcases h1.2 with h | h
        · exact absurd hc h
        · omega
      · exact .inl (by omega)
  · rintro ⟨h1, h2⟩ i hi
    have hi := List.mem_range.1 hi
    unfold FN
    have ge : l.getD i default = l[i] := by simp [List.getD_eq_getElem?_getD, hi]
    have := h1 l[i] (List.getElem_mem hi)
    rw [ge, this.1, this.2]
    by_cases h0 : i = 0
    · simp [h0]
    · have hi' : i - 1 < l.length := by omega
      have ge' : l.getD (i - 1) default = l[i - 1] := by simp [List.getD_eq_getElem?_getD, hi']
      have h3 := h2 (i - 1) l[i - 1] l[i] (List.getElem?_eq_getElem hi') (by rw [show i - 1 + 1 = i by omega]; exact List.getElem?_eq_getElem hi)
      rw [ge']
      have r1 := (h1 l[i - 1] (List.getElem_mem hi')).1
      unfold QC
      rw [r1, this.1]
      rcases h3 with h3 | ⟨h3, h4⟩
      · have a : ¬ 0 < eT l[i - 1].Row l[i].Row := by omega
        have b : ¬ eT l[i - 1].Row l[i].Row = 0 := by omega
        simp [a, b]
      · have a : eT l[i - 1].Row l[i].Row = 0 := (mI.eq _ _).2 h3
        have b : ¬ l[i].At ≤ l[i - 1].At := by omega
        simp [a, b]

theorem HS {l : List aB} (hl : okL l) : tJ l = some (mY l) := by
  unfold tJ
  by_cases hn : l.length ≤ 4096
  · have h1 : decide ((4096 : Int) < ((l.length : Nat) : Int)) = false := by simp; omega
    rw [h1, cond_false]
    unfold BN
    have hlp := CX (body := fun s => qK l s) (l := List.range l.length) (fun i => i) (FN l) (.inr false) (.inl ()) ?_ ?_
    · rw [hlp]
      cases hb : (List.range l.length).any (FN l)
      · obtain ⟨h2, h3⟩ := RM.1 hb
        have hr := OB hl (fun e he => (h2 e he).1) (by omega)
        simp only [Bool.false_eq_true, if_false, Option.bind_some, Sum.elim_inl, wS, hr, AS]
        have hrl := HR l
        rw [CX (l := rowsOf l) (fun i => i) (fun r => decide (1024 < (dD l r).length)) (.inr false) (.inl ()) ?_ ?_]
        · cases hc : (rowsOf l).any fun r => decide (1024 < (dD l r).length)
          · have : mY l = true := EO.2 ⟨hn, h2, h3, fun r hr => by
              have := List.any_eq_false.1 hc r hr
              simp only [decide_eq_true_eq] at this; omega⟩
            rw [this]; rfl
          · have : mY l = false := by
              rw [Bool.eq_false_iff]
              intro hm
              obtain ⟨r, hr, h4⟩ := List.any_eq_true.1 hc
              have := (EO.1 hm).2.2.2 r hr
              simp only [decide_eq_true_eq] at h4; omega
            rw [this]; rfl
        · intro i r hi
          obtain ⟨d1, d2, d3, d4⟩ := idx hi (by omega)
          show sF _ _ _ = _
          simp only [sF, d1, cond_true, aT d2, d3, d4, MD hl (show l.length ≤ 1099511627776 by omega), Option.bind_some]
          by_cases h : 1024 < (dD l r).length
          · have h' : (1024 : Int) < (((dD l r).length : Nat) : Int) := by omega
            simp [h, h']
          · have h' : ¬ (1024 : Int) < (((dD l r).length : Nat) : Int) := by omega
            simp [h, h']
        · show sF _ _ _ = _
          simp only [sF, cY, cond_false]
      · have : mY l = false := by
          rw [Bool.eq_false_iff]
          intro hm
          obtain ⟨_, h2, h3, _⟩ := EO.1 hm
          have := RM.2 ⟨h2, h3⟩
          rw [this] at hb; cases hb
        rw [this]; rfl
    · intro i k hi
      obtain ⟨hi0, hk⟩ := List.getElem?_eq_some_iff.1 hi
      rw [List.getElem_range] at hk
      subst hk
      have hi1 : i < l.length := by simpa using hi0
      have hx := List.getElem?_eq_getElem hi1
      obtain ⟨d1, d2, d3, d4⟩ := idx hx (by omega)
      have hr := hl.2 _ (List.getElem_mem hi1)
      have ge : l.getD i default = l[i] := by simp [List.getD_eq_getElem?_getD, hi1]
      show qK _ _ = _
      simp only [qK, d1, cond_true, aT d2, d3, DL l[i].Row (by omega), Option.bind_some]
      rw [aT (fun _ => d2), aT (fun _ => d2)]
      have hm : tK [⟨l[i].At, l[i].Net⟩] = some (!rZ (-2) (jE l[i])) := by
        rw [QJ]
        simp only [qU, chk, List.length_cons, List.length_nil, jE]
        cases rZ (-2) ⟨l[i].At, l[i].Net⟩ <;> rfl
      rw [hm]
      unfold FN
      rw [ge]
      cases h2 : gR l[i].Row
      · simp [dU]
      · cases h3 : rZ (-2) (jE l[i])
        · simp only [dU, Bool.not_true, Bool.not_false, cond_true, Option.bind_some, Bool.or_self, cond_false, Bool.and_self]
          by_cases h0 : i = 0
          · subst h0
            simp [tU, fA]
          · have hi' : i - 1 < l.length := by omega
            have hw : IntKind.i64.wrap ((i : Int) - 1) = ((i - 1 : Nat) : Int) := by rw [fA (by omega) (by omega)]; omega
            have hx' := List.getElem?_eq_getElem hi'
            obtain ⟨_, e2, e3, _⟩ := idx hx' (by omega)
            have ge' : l.getD (i - 1) default = l[i - 1] := by simp [List.getD_eq_getElem?_getD, hi']
            have hr' := hl.2 _ (List.getElem_mem hi')
            have hz : decide ((i : Int) = 0) = false := by simp; omega
            simp only [hz, cond_false, hw, aT e2, aT d2, e3, d3, ge']
            rw [KH _ _ (by omega) (by omega), show (if (gR l[i - 1].Row && gR l[i].Row) = true then eT l[i - 1].Row l[i].Row else 0) = QC l[i - 1].Row l[i].Row from rfl]
            simp only [Option.bind_some, tU, d4]
            rw [aT (fun _ => e2), aT (fun _ => d2)]
            generalize QC l[i - 1].Row l[i].Row = c
            cases hz2 : (decide (0 < c) || (decide (c = 0) && decide (l[i].At ≤ l[i - 1].At)))
            · simp
            · simp [h0]
        · simp [dU]
    · show qK _ _ = _
      simp only [qK, List.length_range, cY, cond_false]
  · have h1 : decide ((4096 : Int) < ((l.length : Nat) : Int)) = true := by simp; omega
    rw [h1, cond_true]
    simp [mY, hn]

end Go.Abs
namespace Go.Abs
open Go
theorem aAl {a b : List aB} (ha : okL a) (hb : okL b) : yN a b = some (BY a b) := by
  unfold yN BY
  rw [HS ha]
  cases h1 : mY a
  · simp [dU]
  · simp only [Option.bind_some, Bool.not_true, Bool.not_false, dU, cond_true, HS hb, Bool.false_or]
    cases h2 : mY b
    · simp
    · have la := (xT h1).1
      have lb := (xT h2).1
      simp only [Bool.not_true, cond_false, Bool.and_self, if_true]
      rw [aT ⟨by omega, by omega⟩, aT ⟨by omega, by omega⟩, WQ (IG ha hb (by omega)) (by simp; omega)]
      rfl

end Go.Abs
namespace Go.Abs
open Go
theorem aDF {l : List aB} (m : ∀ a ∈ l, vY a) (y : List.length l * 40 ≤ 140737488351232) : okL l :=
  ⟨by omega, fun e he => by have := (m e he).1.2; omega⟩

end Go.Abs
namespace Go.Abs
open Go
def okI (x : aY) : Prop := (0 ≤ x.clock ∧ x.clock ≤ 1125899906842624) ∧ mY x.held = true ∧ okL x.held

def okX (xs : List aY) : Prop := xs.length ≤ 8 ∧ ∀ x ∈ xs, okI x

def gI (xs : List aY) (k : Int) : aY := xs.getD (Int.toNat k) default

def pQ (xs : List aY) (k : Int) : Prop := k < 0 ∨ ((xs.length : Nat) : Int) ≤ k

instance (xs : List aY) (k : Int) : Decidable (pQ xs k) := by unfold pQ; infer_instance

def DD (xs : List aY) (k : Int) (l : List aB) : Int × List aY :=
  if pQ xs k then (3, xs) else if !mY l then (2, xs) else if l.any (fun e => decide (e.At < (gI xs k).clock)) then (16, xs)
  else if (BY (gI xs k).held l).2 ≠ 0 then ((BY (gI xs k).held l).2, xs) else (0, xs.set (Int.toNat k) ⟨(gI xs k).clock, (BY (gI xs k).held l).1⟩)

def tV (xs : List aY) (k t : Int) : Int × List aY :=
  if pQ xs k then (3, xs) else if t < 0 ∨ 1125899906842624 < t then (13, xs) else if t < (gI xs k).clock then (16, xs) else (0, xs.set (Int.toNat k) ⟨t, (gI xs k).held⟩)

def aCc (xs : List aY) (t : Int) : Int := xs.foldl (fun t x => min t x.clock) t

def pF (xs : List aY) : Int := aCc xs 1125899906842624

def tP (t : Int) (x : aY) : List aB := x.held.filter fun e => decide (e.At < t)

def gG (t : Int) (x : aY) : aY := ⟨x.clock, x.held.filter fun e => !decide (e.At < t)⟩

def OY (xs : List aY) (n : Int) : Int := xs.foldl (fun n x => n + ((x.held.length : Nat) : Int)) n

def toR (xs : List aY) : bE := ⟨xs.map aY.clock, xs.map aY.held⟩

theorem AA {l : List aB} (h : mY l = true) : l.length ≤ 4096 := (xT h).1

theorem PB {xs : List aY} {k : Int} (h : ¬ pQ xs k) : gI xs k ∈ xs := by
  unfold pQ at h
  unfold gI
  rw [List.getD_eq_getElem?_getD, List.getElem?_eq_getElem (by omega)]
  exact List.getElem_mem _

theorem XZ {xs : List aY} (h : okX xs) {k : Nat} {x : aY} (hx : okI x) : okX (xs.set k x) := by
  refine ⟨by rw [List.length_set]; exact h.1, fun y hy => ?_⟩
  rcases List.mem_or_eq_of_mem_set hy with h1 | rfl
  · exact h.2 y h1
  · exact hx

theorem OV (xs : List aY) (k : Int) : pO ⟨xs⟩ k = some (if pQ xs k then 3 else 0) := by
  unfold pO
  by_cases h : pQ xs k
  · rw [if_pos h]
    unfold pQ at h
    have : (decide (k < (0 : Int)) || decide ((lN xs) ≤ k)) = true := by simpa using h
    simp only [this, cond_true]
  · rw [if_neg h]
    unfold pQ at h
    have : (decide (k < (0 : Int)) || decide ((lN xs) ≤ k)) = false := by
      show (decide (k < (0 : Int)) || decide (((xs.length : Nat) : Int) ≤ k)) = false
      simp; omega
    simp only [this, cond_false]
    rw [aT (show 0 ≤ k ∧ k < lN xs by show 0 ≤ k ∧ k < ((xs.length : Nat) : Int); omega)]

theorem aAM {l : List aB} (hl : l.length < 4611686018427387904) {f : aB → Bool} {g : Unit → aB → Option (Unit × Bool)} (hg : ∀ y, g () y = some ((), f y)) : ∀ (r : List aB) (k : Nat), l.drop k = r → k ≤ l.length →
    ∃ z : Int, (lp (fun s : Unit × Int => cU g l ((l.length : Nat) : Int) s.1 s.2) ((), ((k : Nat) : Int))).bind (Sum.elim (fun rr => dW g rr) (fun rr => some (rr.1, rr.2))) = some ((), z) ∧ decide ((0 : Int) ≤ z) = r.any f
  | [], k, hd, hk => by
    have : k = l.length := by
      have := congrArg List.length hd
      simp at this; omega
    subst this
    refine ⟨-1, ?_, rfl⟩
    rw [cM (r := .inl ()) (by simp only [cU, cY, cond_false])]
    rfl
  | a :: r, k, hd, hk => by
    have ha : l[k]? = some a := by
      have := congrArg (fun L : List aB => L[0]?) hd
      simpa using this
    have hlt : k < l.length := (List.getElem?_eq_some_iff.1 ha).1
    have hd' : l.drop (k + 1) = r := by
      have := congrArg List.tail hd
      simpa using this
    obtain ⟨d1, d2, d3, d4⟩ := idx ha hl
    cases hf : f a with
    | true =>
      refine ⟨((k : Nat) : Int), ?_, by simp [hf]⟩
      rw [cM (r := .inr ((), ((k : Nat) : Int))) (by simp only [cU, d1, cond_true, aT d2, d3, hg, Option.bind_some, hf])]
      rfl
    | false =>
      obtain ⟨z, h1, h2⟩ := aAM hl hg r (k + 1) hd' (by omega)
      refine ⟨z, ?_, by rw [h2]; simp [hf]⟩
      rw [dS (s' := ((), ((k + 1 : Nat) : Int))) (by simp only [cU, d1, cond_true, aT d2, d3, hg, Option.bind_some, hf, cond_false, d4])]
      exact h1

theorem aAF {l : List aB} (hl : okL l) (xs : List aY) (k : Int) :
    dQ l (fun (st : Unit) y0 => (mR xs k y0).bind fun o => some (st, o)) () = some ((), l.any fun e => decide (e.At < (gI xs k).clock)) := by
  unfold dQ fT fJ
  obtain ⟨z, h1, h2⟩ := aAM (l := l) (by have := hl.1; omega) (f := fun e => decide (e.At < (gI xs k).clock)) (g := fun (st : Unit) y0 => (mR xs k y0).bind fun o => some (st, o)) (fun y => rfl) l 0 rfl (Nat.zero_le _)
  have h1' := h1
  simp only [Int.natCast_zero] at h1'
  rw [h1', Option.bind_some, h2]

theorem XP {xs : List aY} (hx : okX xs) (k : Int) {l : List aB} (hl : okL l) : mC ⟨xs⟩ k l = some ((DD xs k l).1, ⟨(DD xs k l).2⟩) := by
  unfold mC DD
  rw [OV, Option.bind_some]
  by_cases ho : pQ xs k
  · rw [if_pos ho, if_pos ho]; rfl
  · rw [if_neg ho, if_neg ho, PX hl]
    simp only [decide_true, cond_true, Bool.not_true, cond_false, Option.bind_some]
    cases hm : mY l with
    | false => rfl
    | true =>
      simp only [Bool.not_true, cond_false, Bool.false_eq_true, if_false, aAF hl, Option.bind_some]
      have hkI := hx.2 _ (PB ho)
      cases hc : l.any fun e => decide (e.At < (gI xs k).clock) with
      | true => simp
      | false =>
        simp only [cond_false, Bool.false_eq_true, if_false]
        have : List.getD xs (Int.toNat k) default = gI xs k := rfl
        rw [this, aDo hkI.2.2 hl, Option.bind_some]
        by_cases he : (BY (gI xs k).held l).2 = 0
        · rw [if_neg (by simpa using he), decide_eq_true he]; rfl
        · rw [if_pos he, decide_eq_false he]; rfl

theorem JT (xs : List aY) (k t : Int) : fU ⟨xs⟩ k t = some ((tV xs k t).1, ⟨(tV xs k t).2⟩) := by
  unfold fU tV
  rw [OV, Option.bind_some]
  by_cases ho : pQ xs k
  · rw [if_pos ho, if_pos ho]; rfl
  · rw [if_neg ho, if_neg ho]
    simp only [decide_true, cond_true, Bool.not_true, cond_false]
    by_cases h1 : t < 0 ∨ 1125899906842624 < t
    · have : (decide (t < (0 : Int)) || decide ((1125899906842624 : Int) < t)) = true := by simpa using h1
      rw [this, cond_true, if_pos h1]
    · have : (decide (t < (0 : Int)) || decide ((1125899906842624 : Int) < t)) = false := by simp; omega
      rw [this, cond_false, if_neg h1]
      have hg : List.getD xs (Int.toNat k) default = gI xs k := rfl
      rw [hg]
      by_cases h2 : t < (gI xs k).clock
      · rw [decide_eq_true h2, cond_true, if_pos h2]
      · rw [decide_eq_false h2, cond_false, if_neg h2]

theorem KM {xs : List aY} (hx : xs.length ≤ 8) : eP ⟨xs⟩ = some (pF xs) := by
  unfold eP rA
  have := mV (l := xs) (body := fun s : Int × Int => lU ⟨xs⟩ ((xs.length : Nat) : Int) s.1 s.2) (fun (s : Int) i => (s, i)) (fun s r => aCc r s) (fun _ _ => True) 1125899906842624 ?_ ?_ trivial
  · rw [this]; rfl
  · intro i a r s ha _
    left
    obtain ⟨d1, d2, d3, d4⟩ := idx ha (by omega)
    refine ⟨min s a.clock, ?_, trivial, rfl⟩
    simp only [lU, d1, cond_true, aT d2, d3, d4]
    congr 3
    rw [Int.min_def]; split <;> split <;> omega
  · intro s _
    simp only [lU, cY, cond_false]; rfl

theorem UB {xs : List aY} (hx : okX xs) : gQ ⟨xs⟩ = some (OY xs 0) := by
  unfold gQ sK
  have := mV (l := xs) (body := fun s : Int × Int => mT ⟨xs⟩ ((xs.length : Nat) : Int) s.1 s.2) (fun (s : Int) i => (s, i)) (fun s r => OY r s) (fun s r => 0 ≤ s ∧ s + 4096 * r.length ≤ 1000000 ∧ ∀ x ∈ r, okI x) 0 ?_ ?_ ⟨by omega, by have := hx.1; omega, hx.2⟩
  · rw [this]; rfl
  · rintro i a r s ha ⟨h1, h2, h3⟩
    left
    have hx1 := hx.1
    obtain ⟨d1, d2, d3, d4⟩ := idx ha (by omega)
    simp only [List.length_cons] at h2
    have := AA (h3 a (by simp)).2.1
    refine ⟨s + ((a.held.length : Nat) : Int), ?_, ⟨by omega, by omega, fun x hx => h3 x (by simp [hx])⟩, rfl⟩
    have w1 : IntKind.i64.wrap (s + ((a.held.length : Nat) : Int)) = s + ((a.held.length : Nat) : Int) := fA (by omega) (by omega)
    simp only [mT, d1, cond_true, aT d2, d3, d4, w1]
  · intro s _
    simp only [mT, cY, cond_false]; rfl

theorem aBw {h : List aB} (hl : h.length ≤ 4096) (k a b : Int) (A : bN) (out : List (List aB)) (t : Int) :
    lp (fun s : bN × List (List aB) × Int × List aB × List aB × Int => gV k a b h ((h.length : Nat) : Int) s.1 s.2.1 s.2.2.1 s.2.2.2.1 s.2.2.2.2.1 s.2.2.2.2.2) (A, out, t, [], [], 0) =
      some (A, out, t, h.filter (fun e => decide (e.At < t)), h.filter fun e => !decide (e.At < t)) := by
  refine mV (l := h) (fun (s : List aB × List aB) i => (A, out, t, s.1, s.2, i)) (fun s r => (A, out, t, s.1 ++ r.filter (fun e => decide (e.At < t)), s.2 ++ r.filter fun e => !decide (e.At < t))) (fun s r => s.1.length + s.2.length + r.length ≤ 4096) ([], []) ?_ ?_ (by simpa using hl)
  · rintro i e r ⟨s1, s2⟩ he hI
    left
    simp only [List.length_cons] at hI
    obtain ⟨d1, d2, d3, d4⟩ := idx he (by omega)
    by_cases hc : e.At < t
    · refine ⟨(s1 ++ [e], s2), ?_, by simp only [List.length_append, List.length_cons, List.length_nil]; omega, by simp [hc]⟩
      simp only [gV, iZ, d1, cond_true, aT d2, d3, d4, decide_eq_true hc]
      rw [aT (by simp only [List.length_cons, List.length_nil]; omega)]
      rfl
    · refine ⟨(s1, s2 ++ [e]), ?_, by simp only [List.length_append, List.length_cons, List.length_nil]; omega, by simp [hc]⟩
      simp only [gV, iZ, d1, cond_true, aT d2, d3, d4, decide_eq_false hc, cond_false]
      rw [aT (by simp only [List.length_cons, List.length_nil]; omega)]
      rfl
  · rintro ⟨s1, s2⟩ _
    simp only [gV, cY, cond_false]; simp

theorem QE {α : Type} (d : α) (A : List α) (x : α) (r : List α) : (A ++ x :: r).getD A.length d = x := by
  simp [List.getD_eq_getElem?_getD]

theorem WE {α : Type} (A : List α) (x y : α) (r : List α) : (A ++ x :: r).set A.length y = (A ++ [y]) ++ r := by
  rw [List.set_append_right _ _ (Nat.le_refl _)]; simp

theorem QU (t : Int) {n : Nat} (hn : n ≤ 8) : ∀ (r pre : List aY), (∀ x ∈ r, okI x) → pre.length + r.length = n →
    lp (fun s : bN × List (List aB) × Int × Int => gX ((n : Nat) : Int) s.1 s.2.1 s.2.2.1 s.2.2.2) (⟨pre.map (gG t) ++ r⟩, pre.map (tP t), t, ((pre.length : Nat) : Int)) = some (⟨(pre ++ r).map (gG t)⟩, (pre ++ r).map (tP t))
  | [], pre, _, hl => by
    simp only [List.length_nil, Nat.add_zero] at hl
    subst hl
    refine cM ?_
    simp only [gX, cY, cond_false, List.append_nil]
  | x :: r, pre, hr, hl => by
    simp only [List.length_cons] at hl
    have hx := hr x (by simp)
    have hlen := AA hx.2.1
    have d1 : decide (((pre.length : Nat) : Int) < ((n : Nat) : Int)) = true := by simp; omega
    have hg : List.getD (pre.map (gG t) ++ x :: r) (Int.toNat ((pre.length : Nat) : Int)) default = x := by
      have := QE default (pre.map (gG t)) x r
      rw [List.length_map] at this
      rw [Int.toNat_natCast]; exact this
    have hs : List.set (pre.map (gG t) ++ x :: r) (Int.toNat ((pre.length : Nat) : Int)) (gG t x) = (pre ++ [x]).map (gG t) ++ r := by
      have := WE (pre.map (gG t)) x (gG t x) r
      rw [List.length_map] at this
      rw [Int.toNat_natCast, this]; simp
    have w1 : IntKind.i64.wrap (((pre.length : Nat) : Int) + 1) = (((pre ++ [x]).length : Nat) : Int) := by
      rw [fA (by omega) (by omega)]; simp
    have hb : gX ((n : Nat) : Int) ⟨pre.map (gG t) ++ x :: r⟩ (pre.map (tP t)) t ((pre.length : Nat) : Int) = some (.inl (⟨(pre ++ [x]).map (gG t) ++ r⟩, (pre ++ [x]).map (tP t), t, (((pre ++ [x]).length : Nat) : Int))) := by
      simp only [gX, d1, cond_true]
      rw [aT (by simp only [List.length_append, List.length_map, List.length_cons]; omega)]
      unfold pR
      rw [hg, aBw hlen, Option.bind_some]
      unfold nC pX
      rw [aT (by simp only [List.length_append, List.length_map, List.length_cons]; omega), aT (by simp only [List.length_append, List.length_map, List.length_cons, List.length_nil]; omega)]
      simp only [hg]
      rw [show (aY.mk x.clock (x.held.filter fun e => !decide (e.At < t))) = gG t x from rfl, hs, w1]
      simp [tP]
    rw [dS hb, QU t hn r (pre ++ [x]) (fun y hy => hr y (by simp [hy])) (by simp only [List.length_append, List.length_cons, List.length_nil]; omega)]
    simp

theorem CR {xs : List aY} (hx : okX xs) : dI ⟨xs⟩ = some (xs.map (tP (pF xs)), ⟨xs.map (gG (pF xs))⟩) := by
  unfold dI pT
  rw [KM hx.1, Option.bind_some]
  have := QU (pF xs) hx.1 xs [] hx.2 (by simp)
  simp only [List.map_nil, List.nil_append, List.length_nil, Int.natCast_zero] at this
  rw [this]
  rfl

end Go.Abs
namespace Go.Abs
open Go
theorem VC {xs : List aY} {k : Int} (h : ¬ pQ xs k) : List.getD (xs.map aY.clock) (Int.toNat k) default = (gI xs k).clock := by
  unfold pQ at h; unfold gI
  have hlt : Int.toNat k < xs.length := by omega
  simp [List.getD_eq_getElem?_getD, List.getElem?_eq_getElem hlt]

theorem aAJ {xs : List aY} {k : Int} (h : ¬ pQ xs k) : List.getD (xs.map aY.held) (Int.toNat k) default = (gI xs k).held := by
  unfold pQ at h; unfold gI
  have hlt : Int.toNat k < xs.length := by omega
  simp [List.getD_eq_getElem?_getD, List.getElem?_eq_getElem hlt]

theorem TJ {α : Type} (d : α) (l : List α) (i : Nat) : l.set i (l.getD i d) = l := by
  by_cases h : i < l.length
  · rw [List.getD_eq_getElem?_getD, List.getElem?_eq_getElem h, Option.getD_some, List.set_getElem_self]
  · rw [List.set_eq_of_length_le (by omega)]

theorem aBQ {xs : List aY} {k : Int} (h : ¬ pQ xs k) (y : List aB) : toR (xs.set (Int.toNat k) ⟨(gI xs k).clock, y⟩) = ⟨(toR xs).Clocks, (toR xs).aR.set (Int.toNat k) y⟩ := by
  unfold toR
  rw [List.map_set, List.map_set]
  simp only
  rw [← VC h, TJ]

theorem aAs {xs : List aY} {k : Int} (h : ¬ pQ xs k) (t : Int) : toR (xs.set (Int.toNat k) ⟨t, (gI xs k).held⟩) = ⟨(toR xs).Clocks.set (Int.toNat k) t, (toR xs).aR⟩ := by
  unfold toR
  rw [List.map_set, List.map_set]
  simp only
  rw [← aAJ h, TJ]

theorem aDT {xs : List aY} {k : Int} : (decide (k < (0 : Int)) || decide ((((toR xs).Clocks.length : Nat) : Int) ≤ k)) = decide (pQ xs k) := by
  rw [Bool.eq_iff_iff]
  simp only [Bool.or_eq_true, decide_eq_true_eq]
  unfold pQ toR
  simp

theorem aC3 {xs : List aY} (hx : okX xs) (k : Int) {l : List aB} (hl : okL l) : qV (toR xs) k l = some ((DD xs k l).1, toR (DD xs k l).2) := by
  unfold qV DD
  rw [aDT]
  by_cases ho : pQ xs k
  · rw [decide_eq_true ho, cond_true, if_pos ho]
  · rw [decide_eq_false ho, cond_false, if_neg ho, HS hl, Option.bind_some]
    have hin : 0 ≤ k ∧ k < (((toR xs).Clocks.length : Nat) : Int) := by unfold pQ at ho; unfold toR; simp; omega
    have hin2 : 0 ≤ k ∧ k < (((toR xs).aR.length : Nat) : Int) := by unfold pQ at ho; unfold toR; simp; omega
    cases hm : mY l with
    | false => rfl
    | true =>
      simp only [Bool.not_true, cond_false, Bool.false_eq_true, if_false]
      unfold tC
      have hll := AA hm
      rw [CX (l := l) (body := fun s : bE × Int => nO k l s.1 s.2) (fun i => (toR xs, i)) (fun e => decide (e.At < (gI xs k).clock)) (.inr ((16 : Int), toR xs)) (.inl (toR xs)) ?_ ?_]
      · cases hc : l.any fun e => decide (e.At < (gI xs k).clock) with
        | true => simp
        | false =>
          simp only [Bool.false_eq_true, if_false, Option.bind_some, Sum.elim_inl, qH]
          have hh : List.getD (toR xs).aR (Int.toNat k) default = (gI xs k).held := aAJ ho
          rw [aT hin2, hh, aAl (hx.2 _ (PB ho)).2.2 hl, Option.bind_some]
          by_cases he : (BY (gI xs k).held l).2 = 0
          · rw [if_neg (by simpa using he), decide_eq_true he, Bool.not_true, cond_false, aT hin2, aBQ ho]
          · rw [if_pos he, decide_eq_false he]; rfl
      · intro i e he
        obtain ⟨d1, d2, d3, d4⟩ := idx he (by omega)
        have hk : List.getD (toR xs).Clocks (Int.toNat k) default = (gI xs k).clock := VC ho
        simp only [nO, d1, cond_true, aT d2, d3, aT hin, hk, d4]
        cases decide (e.At < (gI xs k).clock) <;> rfl
      · simp only [nO, cY, cond_false]

theorem aA6 (xs : List aY) (k t : Int) : oZ (toR xs) k t = some ((tV xs k t).1, toR (tV xs k t).2) := by
  unfold oZ tV AW
  rw [aDT]
  by_cases ho : pQ xs k
  · rw [decide_eq_true ho, cond_true, if_pos ho]
  · rw [decide_eq_false ho, cond_false, if_neg ho, Option.bind_some]
    have hin : 0 ≤ k ∧ k < (((toR xs).Clocks.length : Nat) : Int) := by unfold pQ at ho; unfold toR; simp; omega
    have hk : List.getD (toR xs).Clocks (Int.toNat k) default = (gI xs k).clock := VC ho
    by_cases h1 : t < 0 ∨ 1125899906842624 < t
    · have : (decide ((0 : Int) ≤ t) && decide (t ≤ (1125899906842624 : Int))) = false := by rw [Bool.and_eq_false_iff, decide_eq_false_iff_not, decide_eq_false_iff_not]; omega
      rw [this, if_pos h1]; rfl
    · have : (decide ((0 : Int) ≤ t) && decide (t ≤ (1125899906842624 : Int))) = true := by rw [Bool.and_eq_true, decide_eq_true_eq, decide_eq_true_eq]; omega
      rw [this, if_neg h1, Bool.not_true, cond_false, aT hin, hk]
      by_cases h2 : t < (gI xs k).clock
      · rw [decide_eq_true h2, cond_true, if_pos h2]
      · rw [decide_eq_false h2, cond_false, if_neg h2, aT hin, aAs ho]

theorem QN {xs : List aY} (hx : okX xs) (h0 : xs ≠ []) : mS (toR xs) = some (pF xs) := by
  cases xs with
  | nil => exact absurd rfl h0
  | cons x r =>
    have hc := (hx.2 x (by simp)).1
    have hn := hx.1
    simp only [List.length_cons] at hn
    unfold mS qZ
    rw [aT (by simp [toR])]
    have hg : List.getD (toR (x :: r)).Clocks (Int.toNat (0 : Int)) default = x.clock := rfl
    rw [hg]
    have := VO (l := (toR (x :: r)).Clocks) (body := fun s : Int × Int => lY (toR (x :: r)) s.1 s.2) (fun (s : Int) i => (s, i)) (fun s q => q.foldl (fun t c => min t c) s) (fun _ _ => True) ?_ ?_ (r.map aY.clock) 1 x.clock rfl (by simp [toR]) trivial
    · have h1 : ((1 : Nat) : Int) = 1 := rfl
      rw [h1] at this
      rw [this, Option.bind_some]
      unfold oG pF aCc
      rw [List.foldl_map, List.foldl_cons, show min 1125899906842624 x.clock = x.clock by omega]
    · intro i a q s ha _
      left
      obtain ⟨d1, d2, d3, d4⟩ := idx ha (by simp [toR]; omega)
      refine ⟨min s a, ?_, trivial, rfl⟩
      simp only [lY, oF, d1, cond_true, aT d2, d3, d4]
      by_cases h : a < s
      · rw [decide_eq_true h, cond_true]; congr 3; omega
      · rw [decide_eq_false h, cond_false]; congr 3; omega
    · intro s _
      simp only [lY, cY, cond_false]; rfl

theorem aBY {xs : List aY} (hx : okX xs) : qG (toR xs) = some (OY xs 0) := by
  unfold qG sJ
  have hx1 := hx.1
  have := mV (l := xs.map aY.held) (body := fun s : Int × Int => mU (toR xs) s.1 s.2) (fun (s : Int) i => (s, i)) (fun s r => r.foldl (fun n h => n + ((h.length : Nat) : Int)) s) (fun s r => 0 ≤ s ∧ s + 4096 * r.length ≤ 1000000 ∧ ∀ h ∈ r, h.length ≤ 4096) 0 ?_ ?_ ⟨by omega, by simp; omega, fun h hh => by
    obtain ⟨x, hx', rfl⟩ := List.mem_map.1 hh
    exact AA (hx.2 x hx').2.1⟩
  · rw [this, Option.bind_some]
    unfold oX OY
    rw [List.foldl_map]
  · rintro i a r s ha ⟨h1, h2, h3⟩
    left
    obtain ⟨d1, d2, d3, d4⟩ := idx ha (by simp; omega)
    simp only [List.length_cons] at h2
    have := h3 a (by simp)
    refine ⟨s + ((a.length : Nat) : Int), ?_, ⟨by omega, by omega, fun h hh => h3 h (by simp [hh])⟩, rfl⟩
    have w1 : IntKind.i64.wrap (s + ((a.length : Nat) : Int)) = s + ((a.length : Nat) : Int) := fA (by omega) (by omega)
    have e1 : (toR xs).aR = xs.map aY.held := rfl
    simp only [mU, e1, d1, cond_true, aT d2, d3, d4, w1]
  · intro s _
    have e1 : (toR xs).aR = xs.map aY.held := rfl
    simp only [mU, e1, cY, cond_false]; rfl

theorem ZQ {h : List aB} (hl : h.length ≤ 4096) {k : Int} {A : bE} (hk : 0 ≤ k ∧ k < ((A.aR.length : Nat) : Int)) (hg : List.getD A.aR (Int.toNat k) default = h) (out : List (List aB)) (t : Int) :
    lp (fun s : bE × List (List aB) × List aB × List aB × Int => gS t k s.1 s.2.1 s.2.2.1 s.2.2.2.1 s.2.2.2.2) (A, out, [], [], 0) =
      some (A, out, h.filter (fun e => decide (e.At < t)), h.filter fun e => !decide (e.At < t)) := by
  refine mV (l := h) (fun (s : List aB × List aB) i => (A, out, s.1, s.2, i)) (fun s r => (A, out, s.1 ++ r.filter (fun e => decide (e.At < t)), s.2 ++ r.filter fun e => !decide (e.At < t))) (fun s r => s.1.length + s.2.length + r.length ≤ 4096) ([], []) ?_ ?_ (by simpa using hl)
  · rintro i e r ⟨s1, s2⟩ he hI
    left
    simp only [List.length_cons] at hI
    obtain ⟨d1, d2, d3, d4⟩ := idx he (by omega)
    by_cases hc : e.At < t
    · refine ⟨(s1 ++ [e], s2), ?_, by simp only [List.length_append, List.length_cons, List.length_nil]; omega, by simp [hc]⟩
      simp only [gS, kJ, aT hk, hg, d1, cond_true, aT d2, d3, d4, decide_eq_true hc]
      rw [aT (by simp only [List.length_cons, List.length_nil]; omega)]
    · refine ⟨(s1, s2 ++ [e]), ?_, by simp only [List.length_append, List.length_cons, List.length_nil]; omega, by simp [hc]⟩
      simp only [gS, kJ, aT hk, hg, d1, cond_true, aT d2, d3, d4, decide_eq_false hc, cond_false]
      rw [aT (by simp only [List.length_cons, List.length_nil]; omega)]
  · rintro ⟨s1, s2⟩ _
    simp only [gS, aT hk, hg, cY, cond_false]; simp

theorem OX (t : Int) (C : List Int) {n : Nat} (hn : n ≤ 8) : ∀ (r pre : List aY), (∀ x ∈ r, okI x) → pre.length + r.length = n →
    lp (fun s : bE × List (List aB) × Int => gT t s.1 s.2.1 s.2.2) (⟨C, pre.map (fun x => (gG t x).held) ++ r.map aY.held⟩, pre.map (tP t), ((pre.length : Nat) : Int)) = some (⟨C, (pre ++ r).map fun x => (gG t x).held⟩, (pre ++ r).map (tP t))
  | [], pre, _, hl => by
    refine cM ?_
    have : decide (((pre.length : Nat) : Int) < (((pre.map (fun x => (gG t x).held) ++ ([] : List aY).map aY.held).length : Nat) : Int)) = false := by simp
    simp only [gT, this, cond_false]
    simp
  | x :: r, pre, hr, hl => by
    simp only [List.length_cons] at hl
    have hx := hr x (by simp)
    have hlen := AA hx.2.1
    have d1 : decide (((pre.length : Nat) : Int) < (((pre.map (fun x => (gG t x).held) ++ (x :: r).map aY.held).length : Nat) : Int)) = true := by simp; omega
    have hg : List.getD (pre.map (fun x => (gG t x).held) ++ (x :: r).map aY.held) (Int.toNat ((pre.length : Nat) : Int)) default = x.held := by
      have := QE default (pre.map fun x => (gG t x).held) x.held (r.map aY.held)
      rw [List.length_map] at this
      rw [Int.toNat_natCast, List.map_cons]; exact this
    have hs : List.set (pre.map (fun x => (gG t x).held) ++ (x :: r).map aY.held) (Int.toNat ((pre.length : Nat) : Int)) (gG t x).held = (pre ++ [x]).map (fun x => (gG t x).held) ++ r.map aY.held := by
      have := WE (pre.map fun x => (gG t x).held) x.held (gG t x).held (r.map aY.held)
      rw [List.length_map] at this
      rw [Int.toNat_natCast, List.map_cons, this]; simp
    have w1 : IntKind.i64.wrap (((pre.length : Nat) : Int) + 1) = (((pre ++ [x]).length : Nat) : Int) := by
      rw [fA (by omega) (by omega)]; simp
    have hk : 0 ≤ ((pre.length : Nat) : Int) ∧ ((pre.length : Nat) : Int) < (((pre.map (fun x => (gG t x).held) ++ (x :: r).map aY.held).length : Nat) : Int) := by simp; omega
    have hb : gT t ⟨C, pre.map (fun x => (gG t x).held) ++ (x :: r).map aY.held⟩ (pre.map (tP t)) ((pre.length : Nat) : Int) = some (.inl (⟨C, (pre ++ [x]).map (fun x => (gG t x).held) ++ r.map aY.held⟩, (pre ++ [x]).map (tP t), (((pre ++ [x]).length : Nat) : Int))) := by
      simp only [gT, d1, cond_true]
      unfold pY
      rw [ZQ hlen hk hg, Option.bind_some]
      unfold mW pW
      rw [aT hk, aT (by simp only [List.length_map, List.length_cons, List.length_nil]; omega)]
      simp only
      rw [show (x.held.filter fun e => !decide (e.At < t)) = (gG t x).held from rfl, hs, w1]
      simp [tP]
    rw [dS hb, OX t C hn r (pre ++ [x]) (fun y hy => hr y (by simp [hy])) (by simp only [List.length_append, List.length_cons, List.length_nil]; omega)]
    simp

theorem MB {xs : List aY} (hx : okX xs) (h0 : xs ≠ []) : kP (toR xs) = some (xs.map (tP (pF xs)), toR (xs.map (gG (pF xs)))) := by
  unfold kP pU
  rw [QN hx h0, Option.bind_some]
  have := OX (pF xs) (xs.map aY.clock) hx.1 xs [] hx.2 (by simp)
  simp only [List.map_nil, List.nil_append, List.length_nil, Int.natCast_zero] at this
  rw [show toR xs = ⟨xs.map aY.clock, xs.map aY.held⟩ from rfl, this, Option.bind_some]
  unfold mZ toR
  simp [gG, Function.comp_def]

theorem YJ : ∀ (j m : Nat), m + j ≤ 8 → lp (fun s : bE × Int => rV (((m + j : Nat) : Int)) s.1 s.2) (⟨List.replicate m 0, List.replicate m []⟩, ((m : Nat) : Int)) = some ⟨List.replicate (m + j) 0, List.replicate (m + j) []⟩
  | 0, m, h => by
    refine cM ?_
    simp only [rV, Nat.add_zero, cY, cond_false]
  | j + 1, m, h => by
    have d1 : decide (((m : Nat) : Int) < ((m + (j + 1) : Nat) : Int)) = true := by simp; omega
    have w1 : IntKind.i64.wrap (((m : Nat) : Int) + 1) = ((m + 1 : Nat) : Int) := by rw [fA (by omega) (by omega)]; simp
    have hb : rV (((m + (j + 1) : Nat) : Int)) ⟨List.replicate m 0, List.replicate m []⟩ ((m : Nat) : Int) = some (.inl (⟨List.replicate (m + 1) 0, List.replicate (m + 1) []⟩, ((m + 1 : Nat) : Int))) := by
      simp only [rV, d1, cond_true]
      rw [aT (by simp only [List.length_replicate, List.length_cons, List.length_nil]; omega), aT (by simp only [List.length_replicate, List.length_cons, List.length_nil]; omega), w1]
      simp [List.replicate_succ']
    rw [dS hb]
    have := YJ j (m + 1) (by omega)
    rw [show m + 1 + j = m + (j + 1) by omega] at this
    exact this

def JO (n : Nat) : List aY := List.replicate n ⟨0, []⟩

theorem aA4 {n : Int} (h0 : 1 ≤ n) (h1 : n ≤ 8) : rL n = some (toR (JO (Int.toNat n))) := by
  unfold rL BM
  have := YJ (Int.toNat n) 0 (by omega)
  simp only [Nat.zero_add, List.replicate_zero, Int.natCast_zero] at this
  rw [show ((Int.toNat n : Nat) : Int) = n by omega] at this
  rw [this, Option.bind_some]
  unfold wY toR JO
  simp

theorem LW {n : Int} (h0 : 1 ≤ n) (h1 : n ≤ 8) : rH n = some (some ⟨JO (Int.toNat n)⟩, 0) := by
  unfold rH
  have : (decide (n < (1 : Int)) || decide ((8 : Int) < n)) = false := by simp; omega
  rw [this, cond_false, aT (by omega)]
  rfl

theorem HZ : mY [] = true := by decide +kernel

theorem XT {n : Nat} (h : n ≤ 8) : okX (JO n) := by
  refine ⟨by simp [JO]; exact h, fun x hx => ?_⟩
  rw [List.eq_of_mem_replicate hx]
  exact ⟨by simp only; omega, HZ, by constructor <;> simp⟩

theorem UR {X : List (List aB)} (hn : X.length ≤ 8) (hX : ∀ l ∈ X, okL l) : sZ X X = some true := by
  unfold sZ xZ
  rw [decide_eq_true rfl, Bool.not_true, cond_false]
  rw [CX (l := X) (body := fun s => rQ X X s) (fun i => i) (fun _ => false) (.inr false) (.inl ()) ?_ ?_]
  · simp [uA]
  · intro i a ha
    obtain ⟨d1, d2, d3, d4⟩ := idx ha (by omega)
    simp only [rQ, d1, cond_true, aT d2, d3, d4, WV (hX a (List.mem_of_getElem? ha)), Option.bind_some, decide_true, Bool.not_true, cond_false]
    rfl
  · simp only [rQ, cY, cond_false]

theorem ZA {a b : List aB} (ha : okL a) (hb : okL b) (h : a.length + b.length ≤ 1000000) : okL (BY a b).1 := by
  unfold BY
  split
  · exact aAt (IG ha hb (by omega))
  · exact GW

theorem aCL {xs : List aY} (hx : okX xs) (k : Int) {l : List aB} (hl : okL l) : okX (DD xs k l).2 ∧ (DD xs k l).2.length = xs.length := by
  unfold DD
  by_cases ho : pQ xs k
  · rw [if_pos ho]; exact ⟨hx, rfl⟩
  · rw [if_neg ho]
    have hI := hx.2 _ (PB ho)
    cases hm : mY l with
    | false => exact ⟨hx, rfl⟩
    | true =>
      simp only [Bool.not_true, Bool.false_eq_true, if_false]
      split
      · exact ⟨hx, rfl⟩
      · split
        · exact ⟨hx, rfl⟩
        · rename_i he
          have he : (BY (gI xs k).held l).2 = 0 := by simpa using he
          refine ⟨XZ hx ⟨hI.1, ?_, ?_⟩, by simp⟩
          · unfold BY at he ⊢
            rw [hI.2.1, hm] at he ⊢
            exact aAD he
          · exact ZA hI.2.2 hl (by have := AA hI.2.1; have := AA hm; omega)

theorem aAy {xs : List aY} (hx : okX xs) (k t : Int) : okX (tV xs k t).2 ∧ (tV xs k t).2.length = xs.length := by
  unfold tV
  by_cases ho : pQ xs k
  · rw [if_pos ho]; exact ⟨hx, rfl⟩
  · rw [if_neg ho]
    have hI := hx.2 _ (PB ho)
    split
    · exact ⟨hx, rfl⟩
    · split
      · exact ⟨hx, rfl⟩
      · exact ⟨XZ hx ⟨by simp only; omega, hI.2⟩, by simp⟩

end Go.Abs
namespace Go.Abs
open Go
theorem WZ {l : List aB} (h : mY l = true) (p : aB → Bool) : mY (l.filter p) = true := by
  obtain ⟨h1, h2, h3, h4⟩ := EO.1 h
  refine EO.2 ⟨Nat.le_trans (List.length_filter_le ..) h1, fun e he => h2 e (List.mem_filter.1 he).1, h3.filter _, fun r _ => ?_⟩
  have hs : (dD (l.filter p) r).Sublist (dD l r) := by
    unfold dD
    exact (List.filter_sublist.filter _).map _
  exact Nat.le_trans hs.length_le (EA.1 (NQ h r)).1

theorem NP {l : List aB} (h : okL l) (p : aB → Bool) : okL (l.filter p) :=
  ⟨Nat.le_trans (List.length_filter_le ..) h.1, fun e he => h.2 e (List.mem_filter.1 he).1⟩

theorem aBB {xs : List aY} (hx : okX xs) (t : Int) : okX (xs.map (gG t)) ∧ (xs.map (gG t)).length = xs.length := by
  refine ⟨⟨by rw [List.length_map]; exact hx.1, fun y hy => ?_⟩, by simp⟩
  obtain ⟨x, h, rfl⟩ := List.mem_map.1 hy
  obtain ⟨h1, h2, h3⟩ := hx.2 x h
  exact ⟨h1, WZ h2 _, NP h3 _⟩

theorem TI {xs : List aY} (hx : okX xs) (t : Int) : (xs.map (tP t)).length ≤ 8 ∧ ∀ l ∈ xs.map (tP t), okL l := by
  refine ⟨by rw [List.length_map]; exact hx.1, fun y hy => ?_⟩
  obtain ⟨x, h, rfl⟩ := List.mem_map.1 hy
  exact NP (hx.2 x h).2.2 _

def e16 : aB := ⟨[⟨1, 1, ByteArray.empty⟩], 2, 1⟩

theorem aAO : okL [e16] := ⟨by decide, by decide⟩

theorem aD2 : DD (JO 2) 0 [e16] = (0, [⟨0, [e16]⟩, ⟨0, []⟩]) := by decide +kernel

theorem aC8 : tV [⟨0, [e16]⟩, ⟨0, []⟩] 0 5 = (0, [⟨5, [e16]⟩, ⟨0, []⟩]) := by decide +kernel

theorem aBG : tV [⟨5, [e16]⟩, ⟨0, []⟩] 1 3 = (0, [⟨5, [e16]⟩, ⟨3, []⟩]) := by decide +kernel

theorem aBk {a b : Int} (ha : 0 ≤ a ∧ a ≤ 1125899906842624) (hb : 0 ≤ b ∧ b ≤ 1125899906842624) : okX [⟨a, [e16]⟩, ⟨b, []⟩] := by
  have m : mY [e16] = true := by decide +kernel
  refine ⟨by simp, fun x hx => ?_⟩
  simp only [List.mem_cons, List.not_mem_nil, or_false] at hx
  rcases hx with rfl | rfl
  · exact ⟨ha, m, aAO⟩
  · exact ⟨hb, HZ, GW⟩

theorem KZ : iX = some true := by
  unfold iX
  rw [LW (by decide) (by decide), Option.bind_some]
  have k2 := XT (n := 2) (by decide)
  have hn : Int.toNat (2 : Int) = 2 := rfl
  simp only [hn]
  have h1 := XP k2 0 aAO
  rw [aD2] at h1
  simp only [e16] at h1
  rw [h1, Option.bind_some]
  have h2 := JT [⟨0, [e16]⟩, ⟨0, []⟩] 0 5
  rw [aC8] at h2
  simp only [e16] at h2
  rw [h2, Option.bind_some]
  have h3 := CR (aBk (a := 5) (b := 0) (by decide) (by decide))
  have h3a : [(⟨5, [e16]⟩ : aY), ⟨0, []⟩].map (tP (pF [⟨5, [e16]⟩, ⟨0, []⟩])) = [[], []] := by decide +kernel
  have h3b : [(⟨5, [e16]⟩ : aY), ⟨0, []⟩].map (gG (pF [⟨5, [e16]⟩, ⟨0, []⟩])) = [⟨5, [e16]⟩, ⟨0, []⟩] := by decide +kernel
  rw [h3a, h3b] at h3
  simp only [e16] at h3
  rw [h3, Option.bind_some]
  have h4 := JT [⟨5, [e16]⟩, ⟨0, []⟩] 1 3
  rw [aBG] at h4
  simp only [e16] at h4
  rw [h4, Option.bind_some]
  have h5 := CR (aBk (a := 5) (b := 3) (by decide) (by decide))
  have h5a : [(⟨5, [e16]⟩ : aY), ⟨3, []⟩].map (tP (pF [⟨5, [e16]⟩, ⟨3, []⟩])) = [[e16], []] := by decide +kernel
  have h5b : [(⟨5, [e16]⟩ : aY), ⟨3, []⟩].map (gG (pF [⟨5, [e16]⟩, ⟨3, []⟩])) = [⟨5, []⟩, ⟨3, []⟩] := by decide +kernel
  rw [h5a, h5b] at h5
  simp only [e16] at h5
  rw [h5, Option.bind_some]
  have k6 : okX [(⟨5, []⟩ : aY), ⟨3, []⟩] := ⟨by simp, fun x hx => by
    simp only [List.mem_cons, List.not_mem_nil, or_false] at hx
    rcases hx with rfl | rfl
    · exact ⟨by decide, HZ, GW⟩
    · exact ⟨by decide, HZ, GW⟩⟩
  have h6 := KM k6.1
  have h7 := UB k6
  have h6b : pF [(⟨5, []⟩ : aY), ⟨3, []⟩] = 3 := by decide +kernel
  have h7b : OY [(⟨5, []⟩ : aY), ⟨3, []⟩] 0 = 0 := by decide +kernel
  rw [h6b] at h6
  rw [h7b] at h7
  simp only []
  rw [aT (fun _ => by decide), aT (fun _ => by decide), aT (fun _ => by decide), aT (fun _ => by decide)]
  simp only [h6, h7]
  rfl

theorem ZR {l : List eM} (hl : l.length < 4611686018427387904) : ∃ b, oS l = some b ∧ (b = true → l.length ≤ 60 ∧ ((l.map fun o => o.Edges.length).sum : Nat) + l.length ≤ 60) := by
  unfold oS yC
  have key : ∀ (r : List eM) (k : Nat) (n : Int), l.drop k = r → k ≤ l.length → 0 ≤ n → n ≤ ((l.length : Nat) : Int) + 121 →
      ∃ z : Int, lp (fun s : Int × Int => pH l s.1 s.2) (n, ((k : Nat) : Int)) = some z ∧ (z ≤ 60 → n + (((r.map fun o => o.Edges.length).sum : Nat) : Int) ≤ 60) := by
    intro r
    induction r with
    | nil =>
      intro k n hd hk h0 h1
      have : k = l.length := by
        have := congrArg List.length hd
        simp at this; omega
      subst this
      refine ⟨n, cM (by simp only [pH, cY, Bool.false_and, cond_false]), fun h => by simpa using h⟩
    | cons a r ih =>
      intro k n hd hk h0 h1
      have ha : l[k]? = some a := by
        have := congrArg (fun L : List eM => L[0]?) hd
        simpa using this
      have hd' : l.drop (k + 1) = r := by
        have := congrArg List.tail hd
        simpa using this
      have hlt : k < l.length := (List.getElem?_eq_some_iff.1 ha).1
      obtain ⟨d1, d2, d3, d4⟩ := idx ha hl
      by_cases hn : n ≤ 60
      · have hm : (if (61 : Int) < ((a.Edges.length : Nat) : Int) then (61 : Int) else ((a.Edges.length : Nat) : Int)) = min 61 ((a.Edges.length : Nat) : Int) := by rw [Int.min_def]; split <;> split <;> omega
        have w1 : IntKind.i64.wrap (n + min 61 ((a.Edges.length : Nat) : Int)) = n + min 61 ((a.Edges.length : Nat) : Int) := fA (by omega) (by omega)
        obtain ⟨z, h3, h4⟩ := ih (k + 1) (n + min 61 ((a.Edges.length : Nat) : Int)) hd' (by omega) (by omega) (by omega)
        refine ⟨z, ?_, fun hz => ?_⟩
        · rw [dS (s' := (n + min 61 ((a.Edges.length : Nat) : Int), ((k + 1 : Nat) : Int))) (by simp only [pH, d1, decide_eq_true hn, Bool.and_self, cond_true, aT d2, d3, d4, hm, w1])]
          exact h3
        · have := h4 hz
          simp only [List.map_cons, List.sum_cons]
          omega
      · refine ⟨n, cM (by simp only [pH, d1, decide_eq_false hn, Bool.and_false, cond_false]), fun h => absurd h hn⟩
  obtain ⟨z, h1, h2⟩ := key l 0 ((l.length : Nat) : Int) rfl (Nat.zero_le _) (by omega) (by omega)
  refine ⟨decide (z ≤ 60), ?_, fun hz => ?_⟩
  · have h1' := h1
    simp only [Int.natCast_zero] at h1'
    rw [h1', Option.bind_some]; rfl
  · have := h2 (by simpa using hz)
    omega

end Go.Abs
namespace Go.Abs
open Go
def zN (xs : List aY) (o : eM) : List aY :=
  if o.Kind = 0 then (DD xs o.Input o.Edges).2 else if o.Kind = 1 then (tV xs o.Input o.At).2 else xs.map (gG (pF xs))

theorem SU {xs : List aY} (hx : okX xs) {o : eM} (ho : okL o.Edges) : okX (zN xs o) ∧ (zN xs o).length = xs.length := by
  unfold zN
  split
  · exact aCL hx _ ho
  · split
    · exact aAy hx _ _
    · exact aBB hx _

theorem aCk {xs : List aY} (hx : okX xs) (h0 : xs ≠ []) (l : List eM) (i : Int) : kR l ⟨xs⟩ 0 (toR xs) i = some (.inl (⟨xs⟩, toR xs, IntKind.i64.wrap (i + (1 : Int)))) := by
  unfold kR
  rw [KM hx.1, Option.bind_some, QN hx h0, Option.bind_some, decide_eq_true rfl]
  simp only [Bool.not_true, Bool.not_false, cond_true, UB hx, aBY hx, Option.bind_some, decide_true, Bool.or_self, cond_false]

theorem QI {xs ys : List aY} (h : ys.length = xs.length) (h0 : xs ≠ []) : ys ≠ [] := by
  intro e; subst e
  exact h0 (List.length_eq_zero_iff.1 h.symm)

theorem aBo {l : List eM} (hl : l.length ≤ 1000000) {xs : List aY} (hx : okX xs) (h0 : xs ≠ []) {i : Nat} {o : eM} (ho : l[i]? = some o) (hoE : okL o.Edges) :
    jC l 0 ⟨xs⟩ (toR xs) ((i : Nat) : Int) = some (.inl (⟨zN xs o⟩, toR (zN xs o), ((i + 1 : Nat) : Int))) := by
  obtain ⟨d1, d2, d3, d4⟩ := idx ho (by omega)
  obtain ⟨s1, s2⟩ := SU hx hoE
  have s3 := QI s2 h0
  have hj := aCk s1 s3 l ((i : Nat) : Int)
  rw [d4] at hj
  unfold jC
  rw [d1, cond_true, aT d2]
  simp only [d3, aT d2]
  by_cases k0 : o.Kind = 0
  · have e : zN xs o = (DD xs o.Input o.Edges).2 := by unfold zN; rw [if_pos k0]
    rw [e] at hj ⊢
    rw [decide_eq_true k0, cond_true, XP hx _ hoE, Option.bind_some, aC3 hx _ hoE, Option.bind_some, decide_eq_true rfl, Bool.not_true, cond_false]
    exact hj
  · rw [decide_eq_false k0, cond_false]
    by_cases k1 : o.Kind = 1
    · have e : zN xs o = (tV xs o.Input o.At).2 := by unfold zN; rw [if_neg k0, if_pos k1]
      rw [e] at hj ⊢
      rw [decide_eq_true k1, cond_true, JT, Option.bind_some, aA6, Option.bind_some, decide_eq_true rfl, Bool.not_true, cond_false]
      exact hj
    · have e : zN xs o = xs.map (gG (pF xs)) := by unfold zN; rw [if_neg k0, if_neg k1]
      rw [e] at hj ⊢
      obtain ⟨q1, q2⟩ := TI hx (pF xs)
      rw [decide_eq_false k1, cond_false, CR hx, Option.bind_some, MB hx h0, Option.bind_some, UR q1 q2, Option.bind_some, Bool.not_true, cond_false]
      exact hj

theorem aBv {l : List eM} (hl : l.length ≤ 1000000) (hE : ∀ o ∈ l, okL o.Edges) {xs : List aY} (hx : okX xs) (h0 : xs ≠ []) :
    ∃ ys, okX ys ∧ ys ≠ [] ∧ lp (fun s : bN × bE × Int => jC l 0 s.1 s.2.1 s.2.2) (⟨xs⟩, toR xs, 0) = some (.inl (⟨ys⟩, toR ys)) := by
  have key : ∀ (r : List eM) (k : Nat) (xs : List aY), l.drop k = r → k ≤ l.length → okX xs → xs ≠ [] →
      ∃ ys, okX ys ∧ ys ≠ [] ∧ lp (fun s : bN × bE × Int => jC l 0 s.1 s.2.1 s.2.2) (⟨xs⟩, toR xs, ((k : Nat) : Int)) = some (.inl (⟨ys⟩, toR ys)) := by
    intro r
    induction r with
    | nil =>
      intro k xs hd hk hx h0
      have : k = l.length := by
        have := congrArg List.length hd
        simp at this; omega
      subst this
      exact ⟨xs, hx, h0, cM (by simp only [jC, cY, cond_false])⟩
    | cons o r ih =>
      intro k xs hd hk hx h0
      have ho : l[k]? = some o := by
        have := congrArg (fun L : List eM => L[0]?) hd
        simpa using this
      have hd' : l.drop (k + 1) = r := by
        have := congrArg List.tail hd
        simpa using this
      have hlt : k < l.length := (List.getElem?_eq_some_iff.1 ho).1
      have hoE := hE o (List.mem_of_getElem? ho)
      obtain ⟨s1, s2⟩ := SU hx hoE
      obtain ⟨ys, y1, y2, y3⟩ := ih (k + 1) (zN xs o) hd' (by omega) s1 (QI s2 h0)
      refine ⟨ys, y1, y2, ?_⟩
      rw [dS (aBo hl hx h0 ho hoE)]
      exact y3
  have := key l 0 xs rfl (Nat.zero_le _) hx h0
  simpa using this

theorem PO (a0 : Int) (w0 : uT a0) (l1 : (List eM)) (m1 : ∀ a ∈ l1, CN a) (y1 : List.length l1 * 48 ≤ 140737488351232) : tM a0 l1 = some true := by
  unfold tM
  by_cases hn : 1 ≤ a0 ∧ a0 ≤ 8
  · rw [LW hn.1 hn.2, Option.bind_some]
    have hb : (decide (a0 < (1 : Int)) || decide ((8 : Int) < a0)) = false := by simp; omega
    obtain ⟨b, h1, h2⟩ := ZR (l := l1) (by omega)
    simp only [hb, cond_false, h1, Option.bind_some]
    cases b with
    | false => simp [KZ]
    | true =>
      obtain ⟨h3, _⟩ := h2 rfl
      have kx := XT (n := Int.toNat a0) (by omega)
      have k0 : JO (Int.toNat a0) ≠ [] := by
        intro e
        have := congrArg List.length e
        simp [JO] at this; omega
      obtain ⟨ys, y1', y2, y3⟩ := aBv (l := l1) (by omega) (fun o ho => aDF (m1 o ho).2.2.1.1 (m1 o ho).2.2.1.2) kx k0
      simp only [Bool.not_true, cond_false]
      rw [aA4 hn.1 hn.2, Option.bind_some]
      unfold qL
      rw [y3, Option.bind_some]
      obtain ⟨q1, q2⟩ := TI y1' (pF ys)
      simp only [Sum.elim_inl, qF, KZ, Option.bind_some, decide_true, Bool.and_self, cond_true, CR y1', MB y1' y2, dU, UR q1 q2]
  · have hb : (decide (a0 < (1 : Int)) || decide ((8 : Int) < a0)) = true := by simp; omega
    have hN : rH a0 = some (none, 2) := by unfold rH; rw [hb]; rfl
    rw [hN, Option.bind_some]
    simp only [hb, cond_true, KZ, Option.bind_some]
    rfl

end Go.Abs
