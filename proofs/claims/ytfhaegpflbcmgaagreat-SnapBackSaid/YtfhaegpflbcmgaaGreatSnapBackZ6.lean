/- What the law SnapBack stands on: the framework, the given functions as plain functions, their walks, and the plain laws; part 6. -/
import Derived.Test.YtfhaegpflbcmgaaGreatSnapBackZ5
set_option linter.unusedSimpArgs false
set_option linter.unusedVariables false
namespace Go.Abs
open Go
theorem XP {α : Type} {f g : List α} (h : f.length ≠ g.length) : (!decide (((f.length : Nat) : Int) = ((g.length : Nat) : Int))) = true := by simp; omega

theorem YT {α : Type} {f g : List α} (h : f.length = g.length) : (!decide (((f.length : Nat) : Int) = ((g.length : Nat) : Int))) = false := by simp [h]

theorem aBI (a b : List aI) (hl : a.length ≤ 17592186044416) : CO a b = some (decide (a = b)) := by
 unfold CO mC
 by_cases he : a.length = b.length
 ·rw [YT he, cond_false]
  unfold lT
  have := VG (f := a) (g := b) (body := fun s => fR a b (a.length : Nat) s) he ?_ ?_ a.length 0 rfl (Nat.zero_le _)
  ·simp only [Int.natCast_zero, List.drop_zero] at this
   rw [this]
   by_cases h : a = b <;> simp [h, iH]
  ·intro i x y hx hy
   obtain ⟨d1, d2, d3, d4⟩ := idx hx (by omega)
   obtain ⟨_, e2, e3, _⟩ := idx hy (by omega)
   simp only [fR, d1, cond_true, aQ d2, aQ e2, d3, e3, d4, veq]
   by_cases h : x = y <;> simp [h]
  ·simp only [fR, mY, cond_false]
 ·rw [XP he, cond_true]
  have : a ≠ b := fun h => he (by rw [h])
  simp [this]

theorem UW (a b : List aI) (hl : a.length ≤ 17592186044416) : yM a b = some (decide (a = b)) := by
 unfold yM
 by_cases he : a.length = b.length
 ·rw [YT he, cond_false]
  unfold AS
  have := VG (f := a) (g := b) (body := fun s => uL a b s) he ?_ ?_ a.length 0 rfl (Nat.zero_le _)
  ·simp only [Int.natCast_zero, List.drop_zero] at this
   rw [this]
   by_cases h : a = b <;> simp [h, xF]
  ·intro i x y hx hy
   obtain ⟨d1, d2, d3, d4⟩ := idx hx (by omega)
   obtain ⟨_, e2, e3, _⟩ := idx hy (by omega)
   simp only [uL, d1, cond_true, aQ d2, aQ e2, d3, e3, d4, veq]
   by_cases h : x = y <;> simp [h]
  ·simp only [uL, mY, cond_false]
 ·rw [XP he, cond_true]
  have : a ≠ b := fun h => he (by rw [h])
  simp [this]

structure KZ {α : Type} (c : α → α → Int) : Prop where
 eq : ∀ a b, c a b = 0 ↔ a = b
 anti : ∀ a b, c a b < 0 ↔ 0 < c b a
 trans : ∀ a b d, c a b < 0 → c b d < 0 → c a d < 0

def vB (x y : Int) : Int := if x < y then -1 else if y < x then 1 else 0

theorem GH : KZ vB where
 eq a b := by unfold vB; (repeat' split) <;> omega
 anti a b := by unfold vB; (repeat' split) <;> omega
 trans a b d := by unfold vB; (repeat' split) <;> omega

def qE {α : Type} [DecidableEq α] (c : α → α → Int) : List α → List α → Int
 | [], [] => 0
 | [], _ :: _ => -1
 | _ :: _, [] => 1
 | a :: r, b :: s => if a = b then qE c r s else c a b

theorem KZ.list {α : Type} [DecidableEq α] {c : α → α → Int} (h : KZ c) : KZ (qE c) where
 eq := by
  intro a
  induction a with
  | nil => intro b; cases b <;> simp [qE]
  | cons x r ih =>
   intro b
   cases b with
   | nil => simp [qE]
   | cons y s =>
    unfold qE
    split
    ·rename_i e; subst e; rw [ih]; simp
    ·rename_i e
     have := h.eq x y
     constructor
     ·intro h0; exact absurd (this.1 h0) e
     ·intro h0; cases h0; exact absurd rfl e
 anti := by
  intro a
  induction a with
  | nil => intro b; cases b <;> simp [qE]
  | cons x r ih =>
   intro b
   cases b with
   | nil => simp [qE]
   | cons y s =>
    unfold qE
    by_cases e : x = y
    ·subst e; simp only [if_true]; exact ih s
    ·rw [if_neg e, if_neg (fun e' => e e'.symm)]; exact h.anti x y
 trans := by
  intro a
  induction a with
  | nil =>
   intro b d
   cases b <;> cases d <;> simp [qE]
  | cons x r ih =>
   intro b d
   cases b with
   | nil => simp [qE]
   | cons y s =>
    cases d with
    | nil => simp [qE]
    | cons z t =>
     unfold qE
     by_cases e1 : x = y
     ·subst e1
      rw [if_pos rfl]
      by_cases e2 : x = z
      ·subst e2; rw [if_pos rfl, if_pos rfl]; exact ih s t
      ·rw [if_neg e2, if_neg e2]; exact fun _ h => h
     ·rw [if_neg e1]
      by_cases e2 : y = z
      ·have hz : ¬ x = z := fun e => e1 (e.trans e2.symm)
       intro h _
       rw [if_neg hz, ← e2]; exact h
      ·rw [if_neg e2]
       intro h1 h2
       by_cases e3 : x = z
       ·subst e3
        have h3 := (h.anti x y).1 h1
        omega
       ·rw [if_neg e3]; exact h.trans x y z h1 h2

def OG (a b : UInt8) : Int := if a < b then -1 else if b < a then 1 else 0

theorem OJ : KZ OG where
 eq a b := by
  unfold OG
  constructor
  ·intro h
   split at h
   ·cases h
   ·split at h
    ·cases h
    ·rename_i h1 h2
     rw [UInt8.lt_iff_toNat_lt] at h1 h2
     exact UInt8.toNat_inj.1 (by omega)
  ·rintro rfl
   have : ¬ a < a := by rw [UInt8.lt_iff_toNat_lt]; omega
   simp [this]
 anti a b := by
  unfold OG
  simp only [UInt8.lt_iff_toNat_lt]
  (repeat' split) <;> omega
 trans a b d := by
  unfold OG
  simp only [UInt8.lt_iff_toNat_lt]
  (repeat' split) <;> omega

theorem GL : ∀ (a b : List UInt8), Go.Lib.compareBytes a b = qE OG a b
 | [], [] => rfl
 | [], _ :: _ => rfl
 | _ :: _, [] => rfl
 | a :: r, b :: s => by
  unfold Go.Lib.compareBytes qE
  rw [GL r s]
  by_cases e : a = b
  ·subst e
   have : ¬ a < a := by rw [UInt8.lt_iff_toNat_lt]; omega
   simp [this]
  ·rw [if_neg e]
   unfold OG
   have : ¬ (¬ a < b ∧ ¬ b < a) := by
    rintro ⟨h1, h2⟩
    rw [UInt8.lt_iff_toNat_lt] at h1 h2
    exact e (UInt8.toNat_inj.1 (by omega))
   by_cases h1 : a < b
   ·simp [h1]
   ·have h2 : b < a := Classical.byContradiction fun h2 => this ⟨h1, h2⟩
    simp [h1, h2]

def VU (a b : ByteArray) : Int := qE OG a.data.toList b.data.toList

theorem aFo (a b : ByteArray) : RO a b = VU a b := GL _ _

theorem data_inj {x y : ByteArray} (h : x.data.toList = y.data.toList) : x = y := by
 cases x; cases y
 congr 1
 exact Array.toList_inj.1 h

theorem IW : KZ VU where
 eq a b := by unfold VU; rw [(OJ.list).eq]; exact ⟨data_inj, fun h => by rw [h]⟩
 anti a b := (OJ.list).anti _ _
 trans a b d := (OJ.list).trans _ _ _

def FX (a b : aI) : Int := if a.Kind = b.Kind then (if a.Num = b.Num then VU a.Text b.Text else vB a.Num b.Num) else vB a.Kind b.Kind

theorem aD1 : KZ FX where
 eq a b := by
  obtain ⟨a1, a2, a3⟩ := a
  obtain ⟨b1, b2, b3⟩ := b
  unfold FX
  simp only [aI.mk.injEq]
  by_cases h1 : a1 = b1
  ·by_cases h2 : a2 = b2
   ·simp [h1, h2, IW.eq]
   ·simp [h1, h2, GH.eq]
  ·simp [h1, GH.eq]
 anti a b := by
  unfold FX
  by_cases h1 : a.Kind = b.Kind
  ·rw [if_pos h1, if_pos h1.symm]
   by_cases h2 : a.Num = b.Num
   ·rw [if_pos h2, if_pos h2.symm]; exact IW.anti _ _
   ·rw [if_neg h2, if_neg (fun h => h2 h.symm)]; exact GH.anti _ _
  ·rw [if_neg h1, if_neg (fun h => h1 h.symm)]; exact GH.anti _ _
 trans a b d := by
  unfold FX
  intro h1 h2
  have lt : ∀ {x y : Int}, vB x y < 0 → x < y := fun {x y} h => by unfold vB at h; split at h <;> (try split at h) <;> omega
  have mk : ∀ {x y : Int}, x < y → vB x y < 0 := fun {x y} h => by unfold vB; rw [if_pos h]; omega
  by_cases e1 : a.Kind = b.Kind
  ·rw [if_pos e1] at h1
   by_cases e2 : b.Kind = d.Kind
   ·rw [if_pos e2] at h2
    rw [if_pos (e1.trans e2)]
    by_cases f1 : a.Num = b.Num
    ·rw [if_pos f1] at h1
     by_cases f2 : b.Num = d.Num
     ·rw [if_pos f2] at h2
      rw [if_pos (f1.trans f2)]
      exact IW.trans _ _ _ h1 h2
     ·rw [if_neg f2] at h2
      rw [f1, if_neg f2]; exact h2
    ·rw [if_neg f1] at h1
     have g1 := lt h1
     by_cases f2 : b.Num = d.Num
     ·rw [← f2, if_neg f1]; exact h1
     ·rw [if_neg f2] at h2
      have g2 := lt h2
      rw [if_neg (by omega)]
      exact mk (by omega)
   ·rw [if_neg e2] at h2
    rw [e1, if_neg e2]; exact h2
  ·rw [if_neg e1] at h1
   have g1 := lt h1
   by_cases e2 : b.Kind = d.Kind
   ·rw [← e2, if_neg e1]; exact h1
   ·rw [if_neg e2] at h2
    have g2 := lt h2
    rw [if_neg (by omega)]
    exact mk (by omega)

def nS (a b : List aI) : Int := qE FX a b

theorem nZ : KZ nS := aD1.list

end Go.Abs
namespace Go.Abs
open Go
theorem TW (x y : Int) : nD x y = some (vB x y) := by
 unfold nD nQ vB
 by_cases h1 : x < y
 ·simp [h1]
 ·by_cases h2 : y < x <;> simp [h1, h2]

theorem aCh (x y : Int) : gU x y = some (vB x y) := by
 unfold gU oJ vB
 by_cases h1 : x < y
 ·simp [h1]
 ·by_cases h2 : y < x <;> simp [h1, h2]

theorem MY {v : aI} (h : IS v = true) : v.Kind = 1 ∧ v.Text = (⟨#[]⟩ : ByteArray) := by
 simp only [IS, TJ, Bool.and_eq_true, decide_eq_true_eq] at h; exact h

theorem JU {v : aI} (h : IY v = true) : v.Kind = 2 ∧ v.Num = 0 ∧ v.Text.size ≤ 64 := by
 simp only [IY, Bool.and_eq_true, decide_eq_true_eq] at h; exact ⟨h.1.1, h.1.2, by omega⟩

theorem aAK {v : aI} (h : JS v = true) : IS v = true ∨ (IS v = false ∧ IY v = true) := by
 unfold JS at h
 cases hn : IS v
 ·rw [hn] at h; exact .inr ⟨rfl, by simpa using h⟩
 ·exact .inl rfl

theorem aCN (a : ByteArray) : VU a a = 0 := (IW.eq a a).2 rfl

theorem MJ (a : Int) : vB a a = 0 := (GH.eq a a).2 rfl

theorem aCZ {a b : aI} (ha : JS a = true) (hb : JS b = true) : uT a b = some (FX a b) := by
 unfold uT
 simp only [of_eq, Option.bind_some]
 rcases aAK ha with h1 | ⟨h1, h1'⟩ <;> rcases aAK hb with h2 | ⟨h2, h2'⟩
 ·obtain ⟨k1, t1⟩ := MY h1
  obtain ⟨k2, t2⟩ := MY h2
  simp only [h1, h2, if_true, Bool.not_true, Bool.or_self, cond_false, aCh, Option.bind_some]
  unfold FX
  rw [k1, k2, t1, t2, if_pos rfl, aCN]
  by_cases hn : a.Num = b.Num
  ·rw [if_pos hn, hn, MJ]
  ·rw [if_neg hn]
 ·obtain ⟨k1, t1⟩ := MY h1
  obtain ⟨k2, n2, _⟩ := JU h2'
  simp only [h1, h2, h2', if_true, Bool.false_eq_true, if_false, Bool.not_true, Bool.or_self, cond_false]
  unfold FX
  rw [k1, k2]; rfl
 ·obtain ⟨k1, n1, _⟩ := JU h1'
  obtain ⟨k2, t2⟩ := MY h2
  simp only [h1, h1', h2, if_true, Bool.false_eq_true, if_false, Bool.not_true, Bool.or_self, cond_false]
  unfold FX
  rw [k1, k2]; rfl
 ·obtain ⟨k1, n1, _⟩ := JU h1'
  obtain ⟨k2, n2, _⟩ := JU h2'
  simp only [h1, h1', h2, h2', if_true, Bool.false_eq_true, if_false, Bool.not_true, Bool.or_self, cond_false]
  unfold FX rN mF
  rw [k1, k2, n1, n2, if_pos rfl, if_pos rfl]
  simp [aFo]

theorem aAx {r : List aI} (h : vG r = true) : r.length ≤ 8 ∧ ∀ v ∈ r, JS v = true := by
 simp only [vG, Bool.and_eq_true, decide_eq_true_eq, List.all_eq_true] at h; exact h

theorem aDZ {a b : List aI} {k : Nat} (hk : k = a.length ∨ k = b.length) (h1 : k ≤ a.length) (h2 : k ≤ b.length) : nS (a.drop k) (b.drop k) = vB a.length b.length := by
 rcases hk with rfl | rfl
 ·rw [List.drop_length]
  by_cases h : a.length = b.length
  ·rw [h, List.drop_length, MJ]; rfl
  ·rw [List.drop_eq_getElem_cons (by omega)]
   show (-1 : Int) = _
   unfold vB; rw [if_pos (by omega)]
 ·rw [List.drop_length]
  by_cases h : a.length = b.length
  ·rw [← h, List.drop_length, MJ]; rfl
  ·rw [List.drop_eq_getElem_cons (by omega)]
   show (1 : Int) = _
   unfold vB; rw [if_neg (by omega), if_pos (by omega)]

theorem aAv {a b : List aI} (hl : a.length ≤ 8) (hlb : b.length ≤ 8) (n : Nat) (hn : n = min a.length b.length) : ∀ (m k : Nat), n - k = m → k ≤ n →
  ∃ x, lp (fun s : Int × Int => cI (fun st y0 => (nB y0 st b).bind fun o => some (o.2, o.1)) (a.take n) (n : Nat) s.1 s.2) ((k : Int) - 1, (k : Int)) = some x ∧
   ((∃ sg, x = .inl sg ∧ nS (a.drop k) (b.drop k) = vB a.length b.length) ∨
    (∃ i : Nat, x = .inr ((i : Int), (i : Int)) ∧ i < a.length ∧ i < b.length ∧ nS (a.drop k) (b.drop k) = FX (a.getD i default) (b.getD i default)))
 | 0, k, hm, hk => by
  have : k = n := by omega
  subst this
  refine ⟨.inl ((k : Int) - 1), cE ?_, .inl ⟨_, rfl, aDZ (by omega) (by omega) (by omega)⟩⟩
  show cI _ _ _ _ _ = _
  simp only [cI, mY, cond_false]
 | m + 1, k, hm, hk => by
  have h1 : k < a.length := by omega
  have h2 : k < b.length := by omega
  have ht : (a.take n)[k]? = some a[k] := by
   rw [List.getElem?_take_of_lt (by omega)]; exact List.getElem?_eq_getElem h1
  obtain ⟨d1, d2, d3, d4⟩ := idx ht (by simp; omega)
  have hlt : (a.take n).length = n := by simp; omega
  rw [hlt] at d1 d2
  obtain ⟨_, e2, e3, _⟩ := idx (List.getElem?_eq_getElem h2) (by omega)
  have hw : IntKind.i64.wrap ((k : Int) - 1 + 1) = (k : Int) := by rw [fV (by omega) (by omega)]; omega
  have hb : (fun s : Int × Int => cI (fun st y0 => (nB y0 st b).bind fun o => some (o.2, o.1)) (a.take n) (n : Nat) s.1 s.2) ((k : Int) - 1, (k : Int)) =
    some (if a[k] = b[k] then .inl ((k : Int), ((k + 1 : Nat) : Int)) else .inr (.inr ((k : Int), (k : Int)))) := by
   show cI _ _ _ _ _ = _
   simp only [cI, d1, cond_true, hlt, aQ d2, d3, d4, nB, hw, aQ e2, e3, veq, Option.bind_some]
   by_cases h : a[k] = b[k] <;> simp [h]
  have ea : a.drop k = a[k] :: a.drop (k + 1) := List.drop_eq_getElem_cons h1
  have eb : b.drop k = b[k] :: b.drop (k + 1) := List.drop_eq_getElem_cons h2
  by_cases h : a[k] = b[k]
  ·rw [if_pos h] at hb
   obtain ⟨x, e, hx⟩ := aAv hl hlb n hn m (k + 1) (by omega) (by omega)
   have hc : nS (a.drop k) (b.drop k) = nS (a.drop (k + 1)) (b.drop (k + 1)) := by
    rw [ea, eb]; unfold nS; rw [qE, if_pos h]
   refine ⟨x, ?_, by rw [hc]; exact hx⟩
   rw [dO hb]
   rw [show ((k + 1 : Nat) : Int) - 1 = (k : Int) by omega] at e
   exact e
  ·rw [if_neg h] at hb
   refine ⟨_, cE hb, .inr ⟨k, rfl, h1, h2, ?_⟩⟩
   rw [ea, eb]; unfold nS; rw [qE, if_neg h]
   simp [List.getD_eq_getElem?_getD, h1, h2]

theorem SW (a b : List aI) : uP a b = some (if vG a && vG b then nS a b else 0) := by
 unfold uP
 rw [MR]
 simp only [Option.bind_some]
 cases ha : vG a
 ·simp [eD]
 ·simp only [Bool.not_true, Bool.not_false, eD, cond_true, MR, Option.bind_some, Bool.false_or]
  cases hb : vG b
  ·simp
  ·obtain ⟨la, ma⟩ := aAx ha
   obtain ⟨lb, mb⟩ := aAx hb
   have hif : (if ((List.length b : Nat) : Int) < ((List.length a : Nat) : Int) then ((List.length b : Nat) : Int) else ((List.length a : Nat) : Int)) = ((min a.length b.length : Nat) : Int) := by split <;> omega
   have hlt : (a.take (min a.length b.length)).length = min a.length b.length := by rw [List.length_take]; omega
   simp only [Bool.not_true, cond_false, hif, Int.toNat_natCast, xX, Option.bind_some, jG, iV, hlt, Bool.and_self, if_true]
   rw [aQ ⟨by omega, by omega⟩]
   obtain ⟨x, e, hx⟩ := aAv (a := a) (b := b) la lb _ rfl _ 0 rfl (Nat.zero_le _)
   have e' : lp (fun s : Int × Int => cI (fun st y0 => (nB y0 st b).bind fun o => some (o.2, o.1)) (a.take (min a.length b.length)) (min a.length b.length : Nat) s.1 s.2) ((-1 : Int), (0 : Int)) = some x := e
   rw [e']
   simp only [List.drop_zero] at hx
   rcases hx with ⟨sg, rfl, h⟩ | ⟨i, rfl, h1, h2, h⟩
   ·simp [fQ, TW, h]
   ·have hi : decide ((i : Int) < 0) = false := by simp
    simp only [Option.bind_some, Sum.elim_inr, hi, cond_false, Int.toNat_natCast]
    rw [aQ ⟨by omega, by omega⟩, aQ ⟨by omega, by omega⟩]
    have g1 : a.getD i default ∈ a := by simp [List.getD_eq_getElem?_getD, h1]
    have g2 : b.getD i default ∈ b := by simp [List.getD_eq_getElem?_getD, h2]
    rw [aCZ (ma _ g1) (mb _ g2), h]
    simp only [Option.bind_some]

end Go.Abs
namespace Go.Abs
open Go
def jE (e : aC) : aB := ⟨e.At, e.Net⟩

def gA (r : List aI) (f : List aB) : List aC → List (List aI × List aB)
 | [] => [(r, f)]
 | e :: l => if e.Row = r then gA r (f ++ [jE e]) l else (r, f) :: gA e.Row [jE e] l

def groups : List aC → List (List aI × List aB)
 | [] => []
 | e :: l => gA e.Row [jE e] l

def itG {σ : Type} (y : σ → List aI → List aB → Option (σ × Bool)) : List (List aI × List aB) → σ → Option σ
 | [], s => some s
 | g :: gs, s => (y s g.1 g.2).bind fun x => if x.2 then itG y gs x.1 else some x.1

def okL (l : List aC) : Prop := l.length ≤ 3518437208783 ∧ ∀ e ∈ l, e.Row.length ≤ 4398046510976

theorem QB {r : List aI} (h : r.length ≤ 4398046510976) : zI r = some r := by
 unfold zI
 rw [aQ ⟨by omega, by omega, by omega⟩, aQ (by simp only [List.length_nil, Nat.zero_add]; omega)]
 rfl

theorem QJ {σ : Type} {y : σ → List aI → List aB → Option (σ × Bool)} {l : List aC} (hl : okL l) (row : List aI) (sg : σ) : ∀ (r : List aC) (k : Nat) (f : List aB), l.drop k = r → k ≤ l.length → f.length ≤ k →
  ∃ k' f', k ≤ k' ∧ k' ≤ l.length ∧ f'.length ≤ k' ∧ lp (fun s : σ × Int × List aB => mA y l row s.1 s.2.1 s.2.2) (sg, (k : Int), f) = some (sg, ((k' : Nat) : Int), f') ∧
   gA row f r = (row, f') :: groups (l.drop k') ∧ (∀ e r', r = e :: r' → e.Row = row → k < k')
 | [], k, f, hd, hk, hf => by
  have : k = l.length := by
   have := congrArg List.length hd
   simp only [List.length_drop, List.length_nil] at this; omega
  subst this
  refine ⟨l.length, f, Nat.le_refl _, Nat.le_refl _, hf, cE ?_, by simp [gA, groups], fun e r' h => by cases h⟩
  show mA _ _ _ _ _ _ = _
  simp only [mA, mY, eD, cond_false, Option.bind_some, Bool.false_and]
  exact aQ (fun h => by cases h)
 | a :: r, k, f, hd, hk, hf => by
  obtain ⟨h1, h2⟩ := drop_cons hd
  have hlt : k < l.length := (List.getElem?_eq_some_iff.1 h1).1
  obtain ⟨hll, hlr⟩ := hl
  obtain ⟨d1, d2, d3, d4⟩ := idx h1 (by omega)
  have har := hlr a (List.mem_of_getElem? h1)
  have hb : (fun s : σ × Int × List aB => mA y l row s.1 s.2.1 s.2.2) (sg, (k : Int), f) = some (if a.Row = row then .inl (sg, ((k + 1 : Nat) : Int), f ++ [jE a]) else .inr (sg, (k : Int), f)) := by
   show mA _ _ _ _ _ _ = _
   simp only [mA, d1, d3, d4, eD, cond_true, aBI a.Row row (by omega), Option.bind_some, Bool.true_and]
   rw [aQ (fun _ => d2)]
   by_cases e : a.Row = row
   ·simp only [e, decide_true, cond_true, if_true]
    rw [aQ d2, aQ d2, aQ (by simp only [List.length_cons, List.length_nil]; omega)]
    rfl
   ·simp [e]
  by_cases e : a.Row = row
  ·rw [if_pos e] at hb
   obtain ⟨k', f', g1, g2, g3, g4, g5, _⟩ := QJ ⟨hll, hlr⟩ row sg r (k + 1) (f ++ [jE a]) h2 (by omega) (by simp; omega) (y := y)
   refine ⟨k', f', by omega, g2, g3, by rw [dO hb]; exact g4, by simp [gA, e, g5], fun _ _ _ _ => by omega⟩
  ·rw [if_neg e] at hb
   refine ⟨k, f, Nat.le_refl _, hk, hf, cE hb, ?_, fun b r' h hr => by cases h; exact absurd hr e⟩
   rw [hd]; simp [gA, e, groups]

theorem aBm {σ : Type} {y : σ → List aI → List aB → Option (σ × Bool)} {l : List aC} (hl : okL l) : ∀ (m k : Nat) (sg s' : σ), l.length - k ≤ m → k ≤ l.length → itG y (groups (l.drop k)) sg = some s' →
  ∃ x, lp (fun s : σ × Int => kE y l s.1 s.2) (sg, (k : Int)) = some x ∧ Sum.elim id id x = s' := by
 have stop : ∀ (sg s' : σ), itG y (groups (l.drop l.length)) sg = some s' → ∃ x, lp (fun s : σ × Int => kE y l s.1 s.2) (sg, ((l.length : Nat) : Int)) = some x ∧ Sum.elim id id x = s' := by
  intro sg s' h
  rw [List.drop_length] at h
  simp only [groups, itG, Option.some.injEq] at h
  refine ⟨.inl sg, cE ?_, h⟩
  show kE _ _ _ _ = _
  simp only [kE, mY, cond_false]
 intro m
 induction m with
 | zero =>
  intro k sg s' hm hk h
  have : k = l.length := by omega
  subst this; exact stop sg s' h
 | succ m ih =>
  intro k sg s' hm hk h
  by_cases he : k = l.length
  ·subst he; exact stop sg s' h
  ·have hlt : k < l.length := by omega
   have hd : l.drop k = l[k] :: l.drop (k + 1) := List.drop_eq_getElem_cons hlt
   obtain ⟨d1, d2, d3, d4⟩ := idx (List.getElem?_eq_getElem hlt) (by have := hl.1; omega)
   obtain ⟨k', f', g1, g2, g3, g4, g5, g6⟩ := QJ hl l[k].Row sg (l.drop k) k [] rfl hk (by simp) (y := y)
   have hk' := g6 _ _ hd rfl
   have hg : groups (l.drop k) = (l[k].Row, f') :: groups (l.drop k') := by
    rw [← g5, hd]; simp [groups, gA]
   rw [hg] at h
   simp only [itG] at h
   obtain ⟨x, hx, h⟩ := aW h
   have hrow := hl.2 _ (List.getElem_mem hlt)
   have hb : (fun s : σ × Int => kE y l s.1 s.2) (sg, (k : Int)) = some (if x.2 then .inl (x.1, ((k' : Nat) : Int)) else .inr (.inr x.1)) := by
    show kE _ _ _ _ = _
    simp only [kE, d1, cond_true, aQ d2, d3, wE, g4, Option.bind_some, uD, QB hrow, hx]
    cases x.2 <;> simp
   cases hx2 : x.2
   ·rw [hx2] at hb h
    simp only [Bool.false_eq_true, if_false, Option.some.injEq] at hb h
    exact ⟨_, cE hb, h⟩
   ·rw [hx2] at hb h
    simp only [if_true] at hb h
    obtain ⟨z, hz1, hz2⟩ := ih k' x.1 s' (by omega) g2 h
    exact ⟨z, by rw [dO hb]; exact hz1, hz2⟩

theorem RR {σ : Type} {y : σ → List aI → List aB → Option (σ × Bool)} {l : List aC} (hl : okL l) {s s' : σ} (h : itG y (groups l) s = some s') : rI y l s = some s' := by
 unfold rI wJ
 obtain ⟨x, h1, h2⟩ := aBm hl l.length 0 s s' (by omega) (Nat.zero_le _) (by simpa using h)
 simp only [Int.natCast_zero] at h1
 rw [h1]
 cases x <;> simpa using h2

def ahd (last : Option (List aI)) (r : List aI) : Bool := match last with
 | none => true
 | some q => decide (nS q r < 0)

def AO (p : List aB → Bool) : Option (List aI) → List (List aI × List aB) → Bool
 | _, [] => true
 | last, g :: gs => (vG g.1 && ahd last g.1 && p g.2) && AO p (some g.1) gs

theorem aAn {holds : List aB → Option Bool} {p : List aB → Bool} (hp : ∀ f, holds f = some (p f)) (c : List aC) (t : Bool) : ∀ (gs : List (List aI × List aB)) (last : List aI) (b : Bool), (b = true → vG last = true) →
  ∃ x, itG (fun st r f => rnd (fun (s : Bool × (List aI) × Bool) => uG holds c s.1 s.2.1 s.2.2 r f) st) gs (.inl (t, last, b)) = some x ∧
   (if AO p (if b then some last else none) gs then ∃ u, x = .inl (t, u) else ∃ u, x = .inr (false, u))
 | [], last, b, _ => ⟨_, rfl, by simp [AO]⟩
 | g :: gs, last, b, hb => by
  have hy : uG holds c t last b g.1 g.2 = some (if vG g.1 && ahd (if b then some last else none) g.1 && p g.2 then .inl (t, g.1, true) else .inr (false, last, b)) := by
   unfold uG
   simp only [MR, Option.bind_some, SW, hp]
   cases hm : vG g.1
   ·simp [eD]
   ·cases b
    ·cases h2 : p g.2 <;> simp [eD, ahd, h2]
    ·have hl := hb rfl
     by_cases h1 : nS last g.1 < 0
     ·have h1' : ¬ (0 ≤ nS last g.1) := by omega
      cases h2 : p g.2 <;> simp [eD, ahd, h2, hl, h1, h1']
     ·have h1' : 0 ≤ nS last g.1 := by omega
      simp [eD, ahd, hl, h1, h1']
  cases hc : (vG g.1 && ahd (if b then some last else none) g.1 && p g.2)
  ·rw [hc] at hy
   simp only [itG, rnd, hy, Option.bind_some, AO, hc]
   exact ⟨.inr (false, last, b), by simp, by simp⟩
  ·rw [hc] at hy
   simp only [itG, rnd, hy, Option.bind_some, AO, hc]
   have hm : vG g.1 = true := by simp only [Bool.and_eq_true] at hc; exact hc.1.1
   obtain ⟨x, h1, h2⟩ := aAn hp c t gs g.1 true (fun _ => hm)
   refine ⟨x, ?_, ?_⟩
   ·simpa [rnd] using h1
   ·simpa using h2

theorem aAI {l : List aC} (hl : okL l) {holds : List aB → Option Bool} {p : List aB → Bool} (hp : ∀ f, holds f = some (p f)) : xM l holds = some (decide (l.length ≤ 4096) && AO p none (groups l)) := by
 unfold xM
 by_cases h : l.length ≤ 4096
 ·have h1 : decide ((4096 : Int) < ((l.length : Nat) : Int)) = false := by simp; omega
  rw [h1, cond_false]
  simp only [tT, Option.bind_some, BW]
  obtain ⟨x, e1, e2⟩ := aAn hp l false (groups l) [] false (fun h => by cases h)
  rw [RR hl e1]
  simp only [Bool.false_eq_true, if_false] at e2
  simp only [h, decide_true, Bool.true_and]
  cases hc : AO p none (groups l)
  ·rw [hc] at e2
   simp only [Bool.false_eq_true, if_false] at e2
   obtain ⟨u, rfl⟩ := e2
   rfl
  ·rw [hc] at e2
   simp only [if_true] at e2
   obtain ⟨u, rfl⟩ := e2
   rfl
 ·have h1 : decide ((4096 : Int) < ((l.length : Nat) : Int)) = true := by simp; omega
  rw [h1, cond_true]
  simp [h]

def nF (l : List aC) : Bool := decide (l.length ≤ 4096) && AO iR none (groups l)

theorem HW {l : List aC} (hl : okL l) : tO l = some (nF l) := by
 unfold tO
 rw [aAI hl (p := iR) (fun f => IA f)]; rfl

def SG (f : List aB) : Bool := iR f && decide (0 ≤ IF f)

def EL (l : List aC) : Bool := decide (l.length ≤ 4096) && AO SG none (groups l)

theorem aCz {l : List aC} (hl : okL l) : zB l = some (EL l) := by
 unfold zB
 rw [aAI hl (p := SG) (fun f => by
  unfold vV SG
  rw [IA]
  cases h : iR f <;> simp [eD, aDQ, h])]
 rfl

def nO (r : List aI) (f : List aB) : List aC := f.map fun j => ⟨r, j.At, j.Net⟩

theorem put_eq {out : List aC} {r : List aI} {f : List aB} (hr : r.length ≤ 4398046510976) (hl : out.length + f.length ≤ 1099511627776) : CK out r f = some (out ++ nO r f) := by
 unfold CK DQ
 rw [BP (l := f) (body := fun s : List aC × Int => tR r f (f.length : Nat) s.1 s.2) (fun o i => (o, i)) (fun o t => o ++ nO r t) (fun o t => o.length + t.length ≤ 1099511627776) out ?_ ?_ hl]
 ·rfl
 ·intro i a t o ha hi
  left
  obtain ⟨d1, d2, d3, d4⟩ := idx ha (by have := (List.getElem?_eq_some_iff.1 ha).1; omega)
  simp only [List.length_cons] at hi
  refine ⟨o ++ [⟨r, a.At, a.Net⟩], ?_, by simp; omega, by simp [nO]⟩
  show tR _ _ _ _ _ = _
  simp only [tR, d1, cond_true, aQ d2, d3, d4, QB hr, Option.bind_some]
  exact aQ (by simp only [List.length_cons, List.length_nil]; omega)
 ·intro o _
  show tR _ _ _ _ _ = _
  simp only [tR, mY, cond_false]
  simp [nO]

def uB (by1 : List aB → List aB × Int) : List (List aI × List aB) → List aC → List aC × Int
 | [], out => (out, 0)
 | g :: gs, out => if (by1 g.2).2 ≠ 0 then ([], (by1 g.2).2) else if 4096 < (out ++ nO g.1 (by1 g.2).1).length then ([], 7) else uB by1 gs (out ++ nO g.1 (by1 g.2).1)

theorem TG {by0 : List aB → Option (List aB × Int)} {by1 : List aB → List aB × Int} (c : List aC) : ∀ (gs : List (List aI × List aB)) (out : List aC), out.length ≤ 4096 → (∀ g ∈ gs, by0 g.2 = some (by1 g.2) ∧ (by1 g.2).1.length ≤ 1024 ∧ g.1.length ≤ 4398046510976) →
  ∃ x, itG (fun st r f => rnd (fun (s : (List aC) × Int × List aC) => sI by0 c s.1 s.2.1 s.2.2 r f) st) gs (.inl ([], 0, out)) = some x ∧ Sum.elim (fun s : (List aC) × Int × List aC => (s.2.2, (0 : Int))) (fun s => (s.1, s.2.1)) x = uB by1 gs out
 | [], out, _, _ => ⟨_, rfl, rfl⟩
 | g :: gs, out, ho, hg => by
  obtain ⟨h1, h2, h3⟩ := hg g (by simp)
  have hy : sI by0 c [] 0 out g.1 g.2 = some (if (by1 g.2).2 ≠ 0 then .inr ([], (by1 g.2).2, out) else if 4096 < (out ++ nO g.1 (by1 g.2).1).length then .inr ([], 7, out ++ nO g.1 (by1 g.2).1) else .inl ([], 0, out ++ nO g.1 (by1 g.2).1)) := by
   unfold sI
   simp only [h1, Option.bind_some, put_eq h3 (show out.length + (by1 g.2).1.length ≤ 1099511627776 by omega)]
   by_cases e1 : (by1 g.2).2 = 0
   ·by_cases e2 : 4096 < (out ++ nO g.1 (by1 g.2).1).length
    ·have e2' : (4096 : Int) < (((out ++ nO g.1 (by1 g.2).1).length : Nat) : Int) := by omega
     simp only [e1, e2, e2', decide_true, Bool.not_true, cond_false, cond_true, ne_eq, not_true_eq_false, if_false, if_true]
    ·have e2' : ¬ (4096 : Int) < (((out ++ nO g.1 (by1 g.2).1).length : Nat) : Int) := by omega
     simp only [e1, e2, e2', decide_true, decide_false, Bool.not_true, cond_false, ne_eq, not_true_eq_false, if_false]
   ·simp only [e1, decide_false, Bool.not_false, cond_true, ne_eq, not_false_eq_true, if_true]
  simp only [itG, rnd, hy, Option.bind_some, uB]
  by_cases e1 : (by1 g.2).2 ≠ 0
  ·rw [if_pos e1, if_pos e1]; exact ⟨_, rfl, rfl⟩
  ·rw [if_neg e1, if_neg e1]
   by_cases e2 : 4096 < (out ++ nO g.1 (by1 g.2).1).length
   ·rw [if_pos e2, if_pos e2]; exact ⟨_, rfl, rfl⟩
   ·rw [if_neg e2, if_neg e2]
    exact TG c gs _ (by omega) (fun q hq => hg q (by simp [hq]))

theorem SU {l : List aC} (hl : okL l) {by0 : List aB → Option (List aB × Int)} {by1 : List aB → List aB × Int} (hb : ∀ g ∈ groups l, by0 g.2 = some (by1 g.2) ∧ (by1 g.2).1.length ≤ 1024 ∧ g.1.length ≤ 4398046510976) : uQ l by0 = some (uB by1 (groups l) []) := by
 unfold uQ
 simp only [tT, Option.bind_some, zG]
 obtain ⟨x, e1, e2⟩ := TG (by0 := by0) (by1 := by1) l (groups l) [] (by simp) hb
 rw [RR hl e1]
 cases x <;> simpa using e2

def flat (gs : List (List aI × List aB)) : List aC := gs.flatMap fun g => nO g.1 g.2

theorem RT : ∀ (l : List aC) (r : List aI) (f : List aB), flat (gA r f l) = nO r f ++ l
 | [], r, f => by simp [gA, flat]
 | e :: l, r, f => by
  unfold gA
  split
  ·rename_i h
   rw [RT l r]
   simp [nO, jE, ← h]
  ·have := RT l e.Row [jE e]
   simp only [flat, List.flatMap_cons] at this ⊢
   rw [this]
   simp [nO, jE]

theorem xN (l : List aC) : flat (groups l) = l := by
 cases l with
 | nil => rfl
 | cons e l => unfold groups; rw [RT]; simp [nO, jE]

theorem WJ {r : List aI} : ∀ {l : List aC} {f : List aB} {g : List aI × List aB}, g ∈ gA r f l → f ≠ [] → g.2 ≠ [] ∧ (g.1 = r ∨ ∃ e ∈ l, g.1 = e.Row)
 | [], f, g, h, hf => by simp only [gA, List.mem_singleton] at h; subst h; exact ⟨hf, .inl rfl⟩
 | e :: l, f, g, h, hf => by
  unfold gA at h
  split at h
  ·obtain ⟨h1, h2⟩ := WJ h (by simp)
   exact ⟨h1, h2.imp id fun ⟨x, hx, hx'⟩ => ⟨x, by simp [hx], hx'⟩⟩
  ·rcases List.mem_cons.1 h with rfl | h
   ·exact ⟨hf, .inl rfl⟩
   ·obtain ⟨h1, h2⟩ := WJ (r := e.Row) h (by simp)
    refine ⟨h1, .inr ?_⟩
    rcases h2 with h2 | ⟨x, hx, hx'⟩
    ·exact ⟨e, by simp, h2⟩
    ·exact ⟨x, by simp [hx], hx'⟩

theorem KC {l : List aC} {g : List aI × List aB} (h : g ∈ groups l) : g.2 ≠ [] ∧ ∃ e ∈ l, g.1 = e.Row := by
 cases l with
 | nil => simp [groups] at h
 | cons e l =>
  obtain ⟨h1, h2⟩ := WJ h (by simp)
  refine ⟨h1, ?_⟩
  rcases h2 with h2 | ⟨x, hx, hx'⟩
  ·exact ⟨e, by simp, h2⟩
  ·exact ⟨x, by simp [hx], hx'⟩

end Go.Abs
namespace Go.Abs
open Go
def dH (l : List aC) (r : List aI) : List aB := (l.filter fun e => decide (e.Row = r)).map jE

theorem vU (a b : List aC) (r : List aI) : dH (a ++ b) r = dH a r ++ dH b r := by simp [dH]

theorem UJ (q : List aI) (f : List aB) (r : List aI) : dH (nO q f) r = if q = r then f else [] := by
 induction f with
 | nil => simp [dH, nO]
 | cons j f ih =>
  have h1 : nO q (j :: f) = [⟨q, j.At, j.Net⟩] ++ nO q f := rfl
  rw [h1, vU, ih]
  by_cases h : q = r <;> simp [dH, jE, h]

def look : List (List aI × List aB) → List aI → List aB
 | [], _ => []
 | g :: gs, r => if g.1 = r then g.2 else look gs r

theorem uY (g : List aI × List aB) (gs : List (List aI × List aB)) (r : List aI) : look (g :: gs) r = if g.1 = r then g.2 else look gs r := rfl

abbrev ltG (a b : List aI × List aB) : Prop := nS a.1 b.1 < 0

abbrev wD (gs : List (List aI × List aB)) : Prop := gs.Pairwise ltG

abbrev Full (gs : List (List aI × List aB)) : Prop := ∀ g ∈ gs, g.2 ≠ []

theorem tC {a : List aI} : ¬ nS a a < 0 := by rw [(nZ.eq a a).2 rfl]; omega

theorem zE : ∀ {gs : List (List aI × List aB)} {r : List aI}, (∀ g ∈ gs, g.1 ≠ r) → look gs r = []
 | [], _, _ => rfl
 | g :: gs, r, h => by
  rw [uY]
  rw [if_neg (h g (by simp))]
  exact zE fun q hq => h q (by simp [hq])

theorem BZ (gs : List (List aI × List aB)) (r : List aI) : (look gs r = [] ∧ ∀ g ∈ gs, g.1 ≠ r) ∨ ∃ g ∈ gs, g.1 = r ∧ look gs r = g.2 := by
 induction gs with
 | nil => exact .inl ⟨rfl, by simp⟩
 | cons g gs ih =>
  rw [uY]
  by_cases h : g.1 = r
  ·rw [if_pos h]; exact .inr ⟨g, by simp, h, rfl⟩
  ·rw [if_neg h]
   rcases ih with ⟨h1, h2⟩ | ⟨q, hq, h1, h2⟩
   ·refine .inl ⟨h1, fun q hq => ?_⟩
    rcases List.mem_cons.1 hq with rfl | hq
    ·exact h
    ·exact h2 q hq
   ·exact .inr ⟨q, by simp [hq], h1, h2⟩

theorem DE {gs : List (List aI × List aB)} (hs : wD gs) {g : List aI × List aB} (hg : g ∈ gs) : look gs g.1 = g.2 := by
 induction gs with
 | nil => simp at hg
 | cons q gs ih =>
  have hs' := List.pairwise_cons.1 hs
  rw [uY]
  rcases List.mem_cons.1 hg with rfl | hg
  ·rw [if_pos rfl]
  ·rw [if_neg (fun e => by have := hs'.1 g hg; simp only [ltG, e] at this; exact tC this)]
   exact ih hs'.2 hg

theorem zF (g : List aI × List aB) (gs : List (List aI × List aB)) : flat (g :: gs) = nO g.1 g.2 ++ flat gs := rfl

theorem CI : ∀ {gs : List (List aI × List aB)}, wD gs → ∀ r, dH (flat gs) r = look gs r
 | [], _, r => rfl
 | g :: gs, hs, r => by
  have hs' := List.pairwise_cons.1 hs
  rw [zF, vU, UJ, CI hs'.2, uY]
  by_cases h : g.1 = r
  ·rw [if_pos h, if_pos h, zE, List.append_nil]
   intro q hq e
   have := hs'.1 q hq
   simp only [ltG, h, e] at this; exact tC this
  ·rw [if_neg h, if_neg h]; rfl

theorem aAy : ∀ {gs hs : List (List aI × List aB)}, wD gs → wD hs → Full gs → Full hs → (∀ r, look gs r = look hs r) → gs = hs
 | [], [], _, _, _, _, _ => rfl
 | [], h :: hs, _, _, _, fh, he => by
  have := he h.1
  simp only [uY, look, if_true] at this
  exact absurd this.symm (fh h (by simp))
 | g :: gs, [], _, _, fg, _, he => by
  have := he g.1
  simp only [uY, look, if_true] at this
  exact absurd this (fg g (by simp))
 | g :: gs, h :: hs, sg, sh, fg, fh, he => by
  have sg' := List.pairwise_cons.1 sg
  have sh' := List.pairwise_cons.1 sh
  by_cases e : g.1 = h.1
  ·have h2 := he g.1
   simp only [look, if_true, if_pos e.symm] at h2
   have ht : gs = hs := aAy sg'.2 sh'.2 (fun q hq => fg q (by simp [hq])) (fun q hq => fh q (by simp [hq])) fun r => by
    by_cases hr : g.1 = r
    ·subst hr
     rw [zE (gs := gs), zE (gs := hs)]
     ·intro q hq e'; have := sh'.1 q hq; simp only [ltG, ← e, e'] at this; exact tC this
     ·intro q hq e'; have := sg'.1 q hq; simp only [ltG, e'] at this; exact tC this
    ·have := he r
     simp only [look, if_neg hr, if_neg (fun x => hr (e.trans x))] at this
     exact this
   rw [ht]
   obtain ⟨g1, g2⟩ := g
   obtain ⟨h1, h3⟩ := h
   simp only at e h2
   rw [e, h2]
  ·exfalso
   have hne : nS g.1 h.1 ≠ 0 := fun x => e ((nZ.eq _ _).1 x)
   by_cases hlt : nS g.1 h.1 < 0
   ·have h2 := he g.1
    rw [DE sg (by simp), zE] at h2
    ·exact fg g (by simp) h2
    ·intro q hq e'
     rcases List.mem_cons.1 hq with rfl | hq
     ·exact e e'.symm
     ·have := nZ.trans _ _ _ hlt (sh'.1 q hq)
      rw [e'] at this; exact tC this
   ·have hlt' : nS h.1 g.1 < 0 := (nZ.anti _ _).2 (by omega)
    have h2 := he h.1
    rw [DE sh (by simp), zE] at h2
    ·exact fh h (by simp) h2.symm
    ·intro q hq e'
     rcases List.mem_cons.1 hq with rfl | hq
     ·exact e e'
     ·have := nZ.trans _ _ _ hlt' (sg'.1 q hq)
      rw [e'] at this; exact tC this

theorem BN {p : List aB → Bool} : ∀ {gs : List (List aI × List aB)} {last : Option (List aI)}, AO p last gs = true ↔ (∀ g ∈ gs, vG g.1 = true ∧ p g.2 = true) ∧ wD gs ∧ (∀ q, last = some q → ∀ g ∈ gs, nS q g.1 < 0)
 | [], last => by simp [AO]
 | g :: gs, last => by
  unfold AO
  simp only [Bool.and_eq_true, BN (gs := gs), List.mem_cons, List.pairwise_cons]
  constructor
  ·rintro ⟨⟨⟨h1, h2⟩, h3⟩, h4, h5, h6⟩
   refine ⟨?_, ⟨fun q hq => h6 _ rfl q hq, h5⟩, ?_⟩
   ·rintro q (rfl | hq)
    ·exact ⟨h1, h3⟩
    ·exact h4 q hq
   ·rintro q rfl x (rfl | hx)
    ·simpa [ahd] using h2
    ·simp only [ahd, decide_eq_true_eq] at h2
     exact nZ.trans _ _ _ h2 (h6 _ rfl x hx)
  ·rintro ⟨h1, ⟨h2, h3⟩, h4⟩
   refine ⟨⟨⟨(h1 g (.inl rfl)).1, ?_⟩, (h1 g (.inl rfl)).2⟩, fun q hq => h1 q (.inr hq), h3, ?_⟩
   ·unfold ahd
    split
    ·rfl
    ·exact decide_eq_true (h4 _ rfl g (.inl rfl))
   ·rintro q hq x hx
    cases hq
    exact h2 x hx

theorem NR (l : List aC) : Full (groups l) := fun _ hg => (KC hg).1

theorem rM {l : List aC} (h : nF l = true) : l.length ≤ 4096 ∧ (∀ g ∈ groups l, vG g.1 = true ∧ iR g.2 = true) ∧ wD (groups l) := by
 simp only [nF, Bool.and_eq_true, decide_eq_true_eq] at h
 obtain ⟨h1, h2, _⟩ := BN.1 h.2
 exact ⟨h.1, h1, h2⟩

theorem aCj {l : List aC} (h : nF l = true) (r : List aI) : iR (look (groups l) r) = true := by
 rcases BZ (groups l) r with ⟨h1, _⟩ | ⟨g, hg, _, h1⟩
 ·rw [h1]; exact aAs
 ·rw [h1]; exact ((rM h).2.1 g hg).2

theorem aDF {a b : List aC} (ha : nF a = true) (hb : nF b = true) (h : ∀ r, look (groups a) r = look (groups b) r) : a = b := by
 rw [← xN a, ← xN b, aAy (rM ha).2.2 (rM hb).2.2 (NR a) (NR b) h]

theorem tM {l : List aC} (h : wD (groups l)) (r : List aI) : look (groups l) r = dH l r := by
 rw [← CI h, xN]

theorem SI (r : List aI) (f : List aB) (e : aC) (l : List aC) : gA r f (e :: l) = if e.Row = r then gA r (f ++ [jE e]) l else (r, f) :: gA e.Row [jE e] l := rfl

theorem YI (r : List aI) : ∀ (f2 f : List aB) (l : List aC), gA r f (nO r f2 ++ l) = gA r (f ++ f2) l
 | [], f, l => by simp [nO]
 | j :: f2, f, l => by
  show gA r f (⟨r, j.At, j.Net⟩ :: (nO r f2 ++ l)) = _
  rw [SI, if_pos rfl, YI r f2]
  simp [jE]

theorem TM : ∀ {gs : List (List aI × List aB)}, wD gs → Full gs → groups (flat gs) = gs
 | [], _, _ => rfl
 | (r, f) :: gs, hs, hf => by
  have hs' := List.pairwise_cons.1 hs
  have hne := hf (r, f) (by simp)
  have ih := TM hs'.2 (fun g hg => hf g (by simp [hg]))
  cases f with
  | nil => exact absurd rfl hne
  | cons j f =>
   rw [zF]
   show gA r [jE ⟨r, j.At, j.Net⟩] (nO r f ++ flat gs) = _
   rw [YI]
   have key : ∀ (F : List aB), gA r F (flat gs) = (r, F) :: groups (flat gs) := by
    intro F
    cases gs with
    | nil => rfl
    | cons g gs =>
     obtain ⟨q, f'⟩ := g
     have hq := hf (q, f') (by simp)
     cases f' with
     | nil => exact absurd rfl hq
     | cons j' f' =>
      have hqr : q ≠ r := fun e => by
       have := hs'.1 (q, j' :: f') (by simp)
       simp only [ltG, e] at this; exact tC this
      rw [zF]
      show gA r F (⟨q, j'.At, j'.Net⟩ :: (nO q f' ++ flat gs)) = _
      rw [gA, if_neg hqr]
      rfl
   rw [key, ih]
   rfl

def LU (gs : List (List aI × List aB)) : List (List aI × List aB) := gs.filter fun g => !g.2.isEmpty

theorem GV : ∀ (gs : List (List aI × List aB)), flat (LU gs) = flat gs
 | [] => rfl
 | (r, []) :: gs => by
  have : LU ((r, []) :: gs) = LU gs := rfl
  rw [this, GV gs, zF]; rfl
 | (r, j :: f) :: gs => by
  have : LU ((r, j :: f) :: gs) = (r, j :: f) :: LU gs := rfl
  rw [this, zF, zF, GV gs]

theorem aC7 (gs : List (List aI × List aB)) : Full (LU gs) := by
 intro g hg
 have := (List.mem_filter.1 hg).2
 intro h; rw [h] at this; simp at this

theorem HB {gs : List (List aI × List aB)} (hs : wD gs) : groups (flat gs) = LU gs := by
 rw [← GV]
 exact TM (hs.filter _) (aC7 gs)

theorem UF {gs : List (List aI × List aB)} (hs : wD gs) (r : List aI) : look (groups (flat gs)) r = look gs r := by
 have h1 := CI (gs := LU gs) (hs.filter _) r
 rw [HB hs, ← h1, ← CI hs, GV]

theorem TN {gs : List (List aI × List aB)} (hs : wD gs) (hm : ∀ g ∈ gs, vG g.1 = true ∧ iR g.2 = true) (hl : (flat gs).length ≤ 4096) : nF (flat gs) = true := by
 simp only [nF, Bool.and_eq_true, decide_eq_true_eq]
 refine ⟨hl, BN.2 ?_⟩
 rw [HB hs]
 exact ⟨fun g hg => hm g (List.mem_filter.1 hg).1, hs.filter _, by simp⟩

def IV (by1 : List aB → List aB × Int) (gs : List (List aI × List aB)) : List (List aI × List aB) := gs.map fun g => (g.1, (by1 g.2).1)

theorem JL {by1 : List aB → List aB × Int} {gs : List (List aI × List aB)} (hs : wD gs) : wD (IV by1 gs) := by
 rw [wD, IV, List.pairwise_map]; exact hs

theorem KQ {by1 : List aB → List aB × Int} (h0 : (by1 []).1 = []) : ∀ (gs : List (List aI × List aB)) (r : List aI), look (IV by1 gs) r = (by1 (look gs r)).1
 | [], r => h0.symm
 | g :: gs, r => by
  show look ((g.1, (by1 g.2).1) :: IV by1 gs) r = _
  rw [uY, uY]
  by_cases h : g.1 = r
  ·rw [if_pos h, if_pos h]
  ·rw [if_neg h, if_neg h]; exact KQ h0 gs r

theorem RQ {by1 : List aB → List aB × Int} : ∀ {gs : List (List aI × List aB)} {out : List aC}, out.length ≤ 4096 → (uB by1 gs out).2 = 0 → (∀ g ∈ gs, (by1 g.2).2 = 0) ∧ (uB by1 gs out).1 = out ++ flat (IV by1 gs) ∧ (uB by1 gs out).1.length ≤ 4096
 | [], out, ho, _ => by simp [uB, IV, flat, ho]
 | g :: gs, out, ho, h => by
  unfold uB at h ⊢
  by_cases e1 : (by1 g.2).2 = 0
  ·rw [if_neg (by simp [e1])] at h ⊢
   by_cases e2 : 4096 < (out ++ nO g.1 (by1 g.2).1).length
   ·rw [if_pos e2] at h; simp at h
   ·rw [if_neg e2] at h ⊢
    obtain ⟨h1, h2, h3⟩ := RQ (by omega) h
    refine ⟨?_, ?_, h3⟩
    ·intro q hq
     rcases List.mem_cons.1 hq with rfl | hq
     ·exact e1
     ·exact h1 q hq
    ·rw [h2]; simp [IV, zF]
  ·rw [if_pos e1] at h; exact absurd h e1

theorem OK {by1 : List aB → List aB × Int} : ∀ {gs : List (List aI × List aB)} {out : List aC}, (uB by1 gs out).2 ≠ 0 → (uB by1 gs out).1 = []
 | [], out, h => by simp [uB] at h
 | g :: gs, out, h => by
  unfold uB at h ⊢
  split
  ·rfl
  ·rename_i e1
   rw [if_neg e1] at h
   split
   ·rfl
   ·rename_i e2
    rw [if_neg e2] at h
    exact OK h

def BJ (by1 : List aB → List aB × Int) (l : List aC) : List aC × Int := if nF l then uB by1 (groups l) [] else ([], 2)

theorem GP {l : List aC} (hl : okL l) {g : List aI × List aB} (hg : g ∈ groups l) : g.1.length ≤ 4398046510976 := by
 obtain ⟨_, e, he, h⟩ := KC hg
 rw [h]; exact hl.2 e he

theorem all_eq {l : List aC} (hl : okL l) {by0 : List aB → Option (List aB × Int)} {by1 : List aB → List aB × Int} (hb : ∀ f, by0 f = some (by1 f)) (h1 : ∀ f, (by1 f).1.length ≤ 1024) : CA l by0 = some (BJ by1 l) := by
 unfold CA BJ
 rw [HW hl]
 cases h : nF l
 ·rfl
 ·simp only [Option.bind_some, Bool.not_true, cond_false, if_true]
  rw [SU hl (fun g hg => ⟨hb g.2, h1 g.2, GP hl hg⟩)]
  rfl

theorem HR {by1 : List aB → List aB × Int} {l : List aC} (h : (BJ by1 l).2 = 0) : nF l = true ∧ (∀ g ∈ groups l, (by1 g.2).2 = 0) ∧ (BJ by1 l).1 = flat (IV by1 (groups l)) ∧ (BJ by1 l).1.length ≤ 4096 := by
 unfold BJ at h ⊢
 cases hm : nF l
 ·rw [hm] at h; simp at h
 ·rw [hm] at h
  simp only [if_true] at h ⊢
  obtain ⟨h1, h2, h3⟩ := RQ (by simp) h
  exact ⟨trivial, h1, by simpa using h2, h3⟩

theorem aCD {by1 : List aB → List aB × Int} (h0 : (by1 []).1 = []) {l : List aC} (h : (BJ by1 l).2 = 0) (r : List aI) : look (groups (BJ by1 l).1) r = (by1 (look (groups l) r)).1 := by
 obtain ⟨h1, h2, h3, _⟩ := HR h
 rw [h3, UF (JL (rM h1).2.2), KQ h0]

theorem YR {by1 : List aB → List aB × Int} (h0 : (by1 []).2 = 0) {l : List aC} (h : (BJ by1 l).2 = 0) (r : List aI) : (by1 (look (groups l) r)).2 = 0 := by
 obtain ⟨h1, h2, _, _⟩ := HR h
 rcases BZ (groups l) r with ⟨e, _⟩ | ⟨g, hg, _, e⟩
 ·rw [e]; exact h0
 ·rw [e]; exact h2 g hg

theorem ZX {f g : List aC} (hl : okL f) : yG f g = some (decide (f = g)) := by
 unfold yG
 by_cases he : f.length = g.length
 ·rw [YT he, cond_false]
  unfold AX
  have := VG (f := f) (g := g) (body := fun s => uO f g s) he ?_ ?_ f.length 0 rfl (Nat.zero_le _)
  ·simp only [Int.natCast_zero, List.drop_zero] at this
   rw [this]
   by_cases h : f = g <;> simp [h, wV]
  ·intro i x y hx hy
   have hll := hl.1
   obtain ⟨d1, d2, d3, d4⟩ := idx hx (by omega)
   obtain ⟨_, e2, e3, _⟩ := idx hy (by omega)
   have hr := hl.2 x (List.mem_of_getElem? hx)
   simp only [uO, d1, cond_true, aQ d2, aQ e2, d3, e3, d4, eD]
   rw [aQ (fun _ => d2), aQ (fun _ => e2), aQ (fun _ => d2), aQ (fun _ => e2), UW x.Row y.Row (by omega)]
   obtain ⟨x1, x2, x3⟩ := x
   obtain ⟨y1, y2, y3⟩ := y
   by_cases h1 : x2 = y2 <;> by_cases h2 : x3 = y3 <;> by_cases h3 : x1 = y1 <;> simp [h1, h2, h3]
  ·simp only [uO, mY, cond_false]
 ·rw [XP he, cond_true]
  have : f ≠ g := fun h => he (by rw [h])
  simp [this]

theorem EN : ∀ (l : List aC) (r : List aI) (f : List aB), (gA r f l).length ≤ l.length + 1
 | [], _, _ => by simp [gA]
 | e :: l, r, f => by
  rw [SI]
  split
  ·have := EN l r (f ++ [jE e]); simp only [List.length_cons]; omega
  ·have := EN l e.Row [jE e]; simp only [List.length_cons]; omega

theorem aBA (l : List aC) : (groups l).length ≤ l.length := by
 cases l with
 | nil => simp [groups]
 | cons e l => exact EN l e.Row [jE e]

end Go.Abs
namespace Go.Abs
theorem aC5 : @fT = @sD aC _ := rfl

theorem aAP : @gJ = @gR aC _ := rfl

theorem WC (cmp) : ∀ k, @lA cmp k = @gT aC _ cmp k
 | 0 => rfl
 | k + 1 => by
  show gJ cmp _ = gR cmp _
  rw [WC cmp k, aAP]

theorem aCV : @iK = @tV aC _ := by
 funext d a m b cmp
 unfold iK tV
 simp only [WC]

theorem WE : @jJ = @BL aC _ := by
 funext d n cmp
 unfold jJ BL mG DN
 unfold lY rB jF DU
 unfold lZ DT mK oL
 unfold mI AG mL rC
 unfold jC zY
 rw [aCV, aC5]
 rfl

end Go.Abs
namespace Go.Abs
open Go
theorem LO {l : List aC} {f : aC → Option Bool} {g : aC → Bool} (hl : l.length ≤ 1099511627776) (hf : ∀ x ∈ l, f x = some (g x)) : eH l f = some (l.any g) := by
 unfold eH jX jO
 obtain ⟨x, e, hx⟩ := JH hl hf l 0 rfl (Nat.zero_le _)
 have e' : lp (fun s => jR f l (l.length : Nat) s) 0 = some x := e
 rw [e']
 rcases hx with ⟨rfl, h⟩ | ⟨i, rfl, _, _, h, _⟩
 ·simp [gC, h]
 ·simp [h]

def unE (e : aC) : Bool := ((!vG e.Row) || (decide ((1048576 : Int) < e.Net))) || (decide (e.Net < (-1048576 : Int)))

def FV (e : aC) : Bool := (decide (e.At < (-1 : Int))) || (decide ((1125899906842624 : Int) < e.At))

def aBc (x y : aC) : Int := if nS x.Row y.Row ≠ 0 then nS x.Row y.Row else vB x.At y.At

abbrev okE (x : aC) : Prop := vG x.Row = true

abbrev leE (x y : aC) : Prop := nS x.Row y.Row < 0 ∨ (x.Row = y.Row ∧ x.At ≤ y.At)

theorem or_eq (a b : Int) : yU [a, b] = some (if a ≠ 0 then a else b) := by
 unfold yU AQ
 have w1 : IntKind.i64.wrap (1 : Int) = 1 := by rw [fV] <;> omega
 have w2 : IntKind.i64.wrap (2 : Int) = 2 := by rw [fV] <;> omega
 have b0 : (fun s => lO 0 [a, b] (([a, b] : List Int).length : Nat) s) (0 : Int) = some (if a ≠ 0 then .inr (.inr a) else .inl 1) := by
  show lO _ _ _ _ = _
  unfold lO
  rw [aQ ⟨by omega, by simp⟩]
  by_cases h : a = 0 <;> simp [h, w1]
 have b1 : (fun s => lO 0 [a, b] (([a, b] : List Int).length : Nat) s) (1 : Int) = some (if b ≠ 0 then .inr (.inr b) else .inl 2) := by
  show lO _ _ _ _ = _
  unfold lO
  rw [aQ ⟨by omega, by simp⟩]
  by_cases h : b = 0 <;> simp [h, w2]
 have b2 : (fun s => lO 0 [a, b] (([a, b] : List Int).length : Nat) s) (2 : Int) = some (.inr (.inl ())) := by
  show lO _ _ _ _ = _
  unfold lO
  simp
 by_cases h : a = 0
 ·rw [if_neg (by simp [h])] at b0
  rw [dO b0]
  by_cases h2 : b = 0
  ·rw [if_neg (by simp [h2])] at b1
   rw [dO b1, cE b2]
   simp [xI, h, h2]
  ·rw [if_pos h2] at b1
   rw [cE b1]
   simp [h]
 ·rw [if_pos h] at b0
  rw [cE b0]
  simp [h]

theorem aE5 {x y : aC} (hx : okE x) (hy : okE y) : rS x y = some (aBc x y) := by
 unfold rS aBc
 rw [SW, hx, hy]
 simp only [Bool.and_self, if_true, Option.bind_some, TW, or_eq]

theorem aEO (x y : aC) : aBc x y < 0 ↔ ¬ leE y x := by
 unfold aBc leE
 have ha := nZ.anti x.Row y.Row
 have hb := nZ.anti y.Row x.Row
 have he := nZ.eq x.Row y.Row
 by_cases h : nS x.Row y.Row = 0
 ·rw [if_neg (by simp [h])]
  have e := he.1 h
  have : ¬ nS y.Row x.Row < 0 := by rw [e]; exact tC
  unfold vB
  constructor
  ·intro h1 h2
   rcases h2 with h2 | ⟨_, h2⟩
   ·exact this h2
   ·split at h1
    ·omega
    ·split at h1 <;> omega
  ·intro h1
   have : ¬ y.At ≤ x.At := fun h2 => h1 (.inr ⟨e.symm, h2⟩)
   rw [if_pos (by omega)]; omega
 ·rw [if_pos h]
  have hne : y.Row ≠ x.Row := fun e => h (he.2 e.symm)
  constructor
  ·intro h1 h2
   rcases h2 with h2 | ⟨h2, _⟩
   ·have := hb.1 h2; omega
   ·exact hne h2
  ·intro h1
   have : ¬ nS y.Row x.Row < 0 := fun h2 => h1 (.inl h2)
   rw [hb] at this
   omega

theorem aC8 (x y : aC) : leE x y ∨ leE y x := by
 unfold leE
 by_cases h : nS x.Row y.Row = 0
 ·have e := (nZ.eq _ _).1 h
  rcases Int.le_total x.At y.At with h1 | h1
  ·exact .inl (.inr ⟨e, h1⟩)
  ·exact .inr (.inr ⟨e.symm, h1⟩)
 ·by_cases h1 : nS x.Row y.Row < 0
  ·exact .inl (.inl h1)
  ·exact .inr (.inl ((nZ.anti _ _).2 (by omega)))

theorem aCx {x y z : aC} (h1 : leE x y) (h2 : leE y z) : leE x z := by
 rcases h1 with h1 | ⟨e1, h1⟩ <;> rcases h2 with h2 | ⟨e2, h2⟩
 ·exact .inl (nZ.trans _ _ _ h1 h2)
 ·exact .inl (e2 ▸ h1)
 ·exact .inl (e1.symm ▸ h2)
 ·exact .inr ⟨e1.trans e2, by omega⟩

theorem aGa : Cmp okE leE (fun y0 y1 => rS y0 y1) where
 ans x y hx hy := ⟨_, aE5 hx hy, aEO x y⟩
 trans x y z _ _ _ h1 h2 := aCx h1 h2
 total x y _ _ := aC8 x y

theorem aGj {l : List aC} (hl : l.length ≤ 1099511627776) (ho : ∀ e ∈ l, okE e) : ∃ r, r.Perm l ∧ Srt leE r ∧ fC l (fun y0 y1 => rS y0 y1) = some r := by
 obtain ⟨r, r1, r2, r3⟩ := TS aGa (d := l) ho hl
 refine ⟨r, r1, r2, ?_⟩
 unfold fC
 rw [WE, r3]; rfl

theorem XL : ∀ {l : List aC} {r : List aI} {f : List aB}, Srt leE l → (∀ e ∈ l, e.Row = r ∨ nS r e.Row < 0) → wD (gA r f l) ∧ ∀ g ∈ gA r f l, g.1 = r ∨ nS r g.1 < 0
 | [], r, f, _, _ => by simp [gA]
 | e :: l, r, f, hs, hr => by
  have hs' := List.pairwise_cons.1 hs
  rw [SI]
  by_cases h : e.Row = r
  ·rw [if_pos h]
   exact XL hs'.2 (fun x hx => hr x (by simp [hx]))
  ·rw [if_neg h]
   have hlt : nS r e.Row < 0 := (hr e (by simp)).resolve_left h
   obtain ⟨h1, h2⟩ := XL (r := e.Row) (f := [jE e]) hs'.2 (fun x hx => by
    rcases hs'.1 x hx with h | ⟨h, _⟩
    ·exact .inr h
    ·exact .inl h.symm)
   have key : ∀ g ∈ gA e.Row [jE e] l, nS r g.1 < 0 := fun g hg => by
    rcases h2 g hg with h | h
    ·rw [h]; exact hlt
    ·exact nZ.trans _ _ _ hlt h
   refine ⟨List.pairwise_cons.2 ⟨key, h1⟩, ?_⟩
   intro g hg
   rcases List.mem_cons.1 hg with rfl | hg
   ·exact .inl rfl
   ·exact .inr (key g hg)

theorem CD {l : List aC} (hs : Srt leE l) : wD (groups l) := by
 cases l with
 | nil => exact List.Pairwise.nil
 | cons e l =>
  have hs' := List.pairwise_cons.1 hs
  exact (XL hs'.2 (fun x hx => by
   rcases hs'.1 x hx with h | ⟨h, _⟩
   ·exact .inr h
   ·exact .inl h.symm)).1

abbrev LQ (rs : List (List aI)) : Prop := rs.Pairwise fun a b => nS a b < 0

def GI (r : List aI) : List (List aI) → List (List aI)
 | [] => [r]
 | x :: xs => if nS x r < 0 then x :: GI r xs else if x = r then x :: xs else r :: x :: xs

def rowsOf (l : List aC) : List (List aI) := l.foldl (fun rs e => GI e.Row rs) []

theorem OX {r x : List aI} : ∀ {rs : List (List aI)}, x ∈ GI r rs ↔ x = r ∨ x ∈ rs
 | [] => by simp [GI]
 | y :: ys => by
  unfold GI
  split
  ·simp only [List.mem_cons, OX (rs := ys)]
   constructor
   ·rintro (h | h | h)
    ·exact .inr (.inl h)
    ·exact .inl h
    ·exact .inr (.inr h)
   ·rintro (h | h | h)
    ·exact .inr (.inl h)
    ·exact .inl h
    ·exact .inr (.inr h)
  ·split
   ·rename_i h; subst h; simp
   ·simp

theorem VS {r : List aI} : ∀ {rs : List (List aI)}, LQ rs → LQ (GI r rs)
 | [], _ => by simp [GI]
 | y :: ys, hs => by
  have hs' := List.pairwise_cons.1 hs
  unfold GI
  split
  ·rename_i h
   refine List.pairwise_cons.2 ⟨fun z hz => ?_, VS hs'.2⟩
   rcases OX.1 hz with rfl | hz
   ·exact h
   ·exact hs'.1 z hz
  ·rename_i h
   split
   ·exact hs
   ·rename_i hne
    have hlt : nS r y < 0 := by
     have h0 : nS y r ≠ 0 := fun e => hne ((nZ.eq _ _).1 e)
     exact (nZ.anti _ _).2 (by omega)
    refine List.pairwise_cons.2 ⟨fun z hz => ?_, hs⟩
    rcases List.mem_cons.1 hz with rfl | hz
    ·exact hlt
    ·exact nZ.trans _ _ _ hlt (hs'.1 z hz)

theorem LF : ∀ (l : List aC) (rs : List (List aI)), LQ rs → LQ (l.foldl (fun rs e => GI e.Row rs) rs) ∧ ∀ x, x ∈ l.foldl (fun rs e => GI e.Row rs) rs ↔ x ∈ rs ∨ ∃ e ∈ l, e.Row = x
 | [], rs, hs => ⟨hs, by simp⟩
 | e :: l, rs, hs => by
  obtain ⟨h1, h2⟩ := LF l (GI e.Row rs) (VS hs)
  refine ⟨h1, fun x => ?_⟩
  simp only [List.foldl_cons]
  rw [h2 x, OX]
  simp only [List.mem_cons, exists_eq_or_imp]
  constructor
  ·rintro ((h | h) | h)
   ·exact .inr (.inl h.symm)
   ·exact .inl h
   ·exact .inr (.inr h)
  ·rintro (h | h | h)
   ·exact .inl (.inr h)
   ·exact .inl (.inl h.symm)
   ·exact .inr h

theorem PV (l : List aC) : LQ (rowsOf l) := (LF l [] List.Pairwise.nil).1

theorem EY {l : List aC} {x : List aI} : x ∈ rowsOf l ↔ ∃ e ∈ l, e.Row = x := by
 have := (LF l [] List.Pairwise.nil).2 x
 simpa [rowsOf] using this

theorem WA : ∀ {a b : List (List aI)}, LQ a → LQ b → (∀ x, x ∈ a ↔ x ∈ b) → a = b
 | [], [], _, _, _ => rfl
 | [], y :: ys, _, _, h => absurd ((h y).2 (by simp)) (by simp)
 | x :: xs, [], _, _, h => absurd ((h x).1 (by simp)) (by simp)
 | x :: xs, y :: ys, ha, hb, h => by
  have ha' := List.pairwise_cons.1 ha
  have hb' := List.pairwise_cons.1 hb
  have e : x = y := by
   rcases List.mem_cons.1 ((h x).1 (by simp)) with h1 | h1
   ·exact h1
   ·rcases List.mem_cons.1 ((h y).2 (by simp)) with h2 | h2
    ·exact h2.symm
    ·exact absurd (nZ.trans _ _ _ (hb'.1 x h1) (ha'.1 y h2)) tC
  subst e
  rw [WA ha'.2 hb'.2 fun z => ?_]
  constructor
  ·intro hz
   rcases List.mem_cons.1 ((h z).1 (by simp [hz])) with h1 | h1
   ·subst h1; exact absurd (ha'.1 z hz) tC
   ·exact h1
  ·intro hz
   rcases List.mem_cons.1 ((h z).2 (by simp [hz])) with h1 | h1
   ·subst h1; exact absurd (hb'.1 z hz) tC
   ·exact h1

def EM (l : List aC) : List (List aI × List aB) := (rowsOf l).map fun r => (r, dH l r)

theorem VO (l : List aC) : wD (EM l) := by
 rw [wD, EM, List.pairwise_map]; exact PV l

theorem ZY {l : List aC} {r : List aI} (h : ∀ e ∈ l, e.Row ≠ r) : dH l r = [] := by
 unfold dH
 rw [List.map_eq_nil_iff, List.filter_eq_nil_iff]
 intro e he
 simpa using h e he

theorem LI (l : List aC) (r : List aI) : look (EM l) r = dH l r := by
 rcases BZ (EM l) r with ⟨h1, h2⟩ | ⟨g, hg, h1, h2⟩
 ·rw [h1, ZY]
  intro e he hr
  have : (r, dH l r) ∈ EM l := List.mem_map.2 ⟨r, EY.2 ⟨e, he, hr⟩, rfl⟩
  exact h2 _ this rfl
 ·rw [h2]
  obtain ⟨q, _, rfl⟩ := List.mem_map.1 hg
  simp only at h1
  rw [h1]

theorem XM {a b : List aC} (h : a.Perm b) (r : List aI) : (dH a r).Perm (dH b r) := (h.filter _).map _

theorem ZV {l l' : List aC} (hp : l'.Perm l) (hs : Srt leE l') : (groups l').map (·.1) = rowsOf l := by
 refine WA ?_ (PV l) fun x => ?_
 ·rw [LQ, List.pairwise_map]; exact CD hs
 ·rw [EY]
  constructor
  ·intro h
   obtain ⟨g, hg, rfl⟩ := List.mem_map.1 h
   obtain ⟨_, e, he, h1⟩ := KC hg
   exact ⟨e, hp.mem_iff.1 he, h1.symm⟩
  ·rintro ⟨e, he, rfl⟩
   have he' : e ∈ flat (groups l') := by rw [xN]; exact hp.mem_iff.2 he
   obtain ⟨g, hg, h1⟩ := List.mem_flatMap.1 he'
   obtain ⟨j, _, rfl⟩ := List.mem_map.1 h1
   exact List.mem_map.2 ⟨g, hg, rfl⟩

theorem aDT {l : List aB} (ht : ∀ j ∈ l, -2 < j.At) : Up (-2) (CS l) :=
 KA (by rw [List.map_map]; simpa [Function.comp_def] using MB ht)

theorem TV {l : List aB} (ht : ∀ j ∈ l, -2 < j.At) {t : Int} (h1 : -2 < t) (h2 : t < 1125899906842624) : val (CS l) t = val l t := by
 have h0 : val l (-2) = 0 := yE fun j hj => ht j hj
 have := KY (F := val l) (MB ht) (fun s t' _ hst hlt hn => HD hst fun j hj hc => hn j.At (PI.2 (Or.inr ⟨j, List.mem_filter.2 ⟨hj, by simp; omega⟩, rfl⟩)) hc) t (by omega) h2
 rw [h0] at this
 unfold CS
 rw [this]; omega

theorem aA3 {f g : List aB} (h : f.Perm g) (hf : f.any DK = false) : CS f = CS g := by
 have hg : ∀ j ∈ g, -2 < j.At := fun j hj => (GB hf j (h.mem_iff.2 hj)).1
 exact XK (fun j hj => (GB hf j hj).1) (aDT hg) fun t h1 h2 => by rw [TV hg h1 h2, XX h]

theorem OI {f g : List aB} (h : f.Perm g) (p : aB → Bool) : f.any p = g.any p := by
 cases h1 : g.any p
 ·rw [List.any_eq_false] at h1 ⊢
  exact fun x hx => h1 x (h.mem_iff.1 hx)
 ·obtain ⟨x, hx, hp⟩ := List.any_eq_true.1 h1
  exact List.any_eq_true.2 ⟨x, h.mem_iff.2 hx, hp⟩

theorem aBG {f g : List aB} (h : f.Perm g) : qB f = qB g := by
 unfold qB
 rw [OI h xE, OI h DK]
 split
 ·rfl
 ·split
  ·rfl
  ·rename_i h2
   rw [aA3 h (by rw [OI h DK]; simpa using h2)]

theorem aCq (l : List aB) : (qB l).1.length ≤ 1024 := by
 unfold qB
 split
 ·simp
 ·split
  ·simp
  ·exact YY _

theorem QC {by1 : List aB → List aB × Int} : ∀ {gs hs : List (List aI × List aB)} {out : List aC}, gs.map (fun g => (g.1, by1 g.2)) = hs.map (fun g => (g.1, by1 g.2)) → uB by1 gs out = uB by1 hs out
 | [], [], _, _ => rfl
 | [], _ :: _, _, h => by simp at h
 | _ :: _, [], _, h => by simp at h
 | g :: gs, k :: hs, out, h => by
  simp only [List.map_cons, List.cons.injEq, Prod.mk.injEq] at h
  obtain ⟨⟨h1, h2⟩, h3⟩ := h
  unfold uB
  rw [h1, h2]
  split
  ·rfl
  ·split
   ·rfl
   ·exact QC h3

theorem ZU {l l' : List aC} (hp : l'.Perm l) (hs : Srt leE l') : (groups l').map (fun g => (g.1, qB g.2)) = (EM l).map (fun g => (g.1, qB g.2)) := by
 have h1 : (groups l').map (fun g => (g.1, qB g.2)) = ((groups l').map (·.1)).map (fun r => (r, qB (dH l r))) := by
  rw [List.map_map]
  apply List.map_congr_left
  intro g hg
  have hj : g.2 = dH l' g.1 := by rw [← tM (CD hs), DE (CD hs) hg]
  simp only [Function.comp]
  rw [hj, aBG (XM hp g.1)]
 rw [h1, ZV hp hs, EM, List.map_map]
 rfl

def nV (l : List aC) : List aC × Int := if l.any unE then ([], 2) else if l.any FV then ([], 13) else uB qB (EM l) []

theorem SC {l : List aC} (h : l.any unE = false) : ∀ e ∈ l, vG e.Row = true ∧ e.Net ≤ 1048576 ∧ -1048576 ≤ e.Net := by
 intro e he
 have := List.any_eq_false.1 h e he
 simp only [unE, Bool.or_eq_true, not_or, Bool.not_eq_true', decide_eq_true_eq, Bool.not_eq_false, Bool.not_eq_true] at this
 exact ⟨by simpa using this.1.1, by omega, by omega⟩

theorem YV {l : List aC} (hl : okL l) (hn : l.length ≤ 1099511627776) : xL l = some (nV l) := by
 unfold xL nV
 rw [LO (g := unE) hn (fun x _ => by simp [wZ, MR, unE])]
 simp only [Option.bind_some]
 cases h1 : l.any unE
 ·rw [LO (f := fun y0 => wT y0) (g := FV) hn (fun x _ => rfl)]
  simp only [cond_false, Option.bind_some, Bool.false_eq_true, if_false]
  cases h2 : l.any FV
  ·simp only [cond_false, Bool.false_eq_true, if_false]
   have hc : iZ l = some l := by unfold iZ; exact aQ ⟨by omega, by omega⟩
   obtain ⟨r, r1, r2, r3⟩ := aGj hn (fun e he => (SC h1 e he).1)
   rw [hc]
   simp only [Option.bind_some]
   rw [r3]
   simp only [Option.bind_some]
   have hr : okL r := ⟨by rw [r1.length_eq]; exact hl.1, fun e he => hl.2 e (r1.mem_iff.1 he)⟩
   rw [SU hr (by1 := qB) (fun g hg => ⟨by
    unfold wN
    have hgl : g.2.length ≤ 1099511627776 := by
     have h3 : g.2 = dH r g.1 := by rw [← tM (CD r2), DE (CD r2) hg]
     rw [h3, dH, List.length_map]
     exact Nat.le_trans (List.length_filter_le _ _) (by rw [r1.length_eq]; exact hn)
    rw [norm_eq hgl]; rfl, aCq _, GP hr hg⟩)]
   simp only [Option.bind_some]
   rw [QC (ZU r1 r2)]
  ·simp
 ·simp

theorem aC0 : qB [] = ([], 0) := rfl

theorem JT {l : List aC} (h : (nV l).2 = 0) : l.any unE = false ∧ l.any FV = false ∧ (∀ g ∈ EM l, (qB g.2).2 = 0) ∧ (nV l).1 = flat (IV qB (EM l)) ∧ (nV l).1.length ≤ 4096 := by
 unfold nV at h ⊢
 cases h1 : l.any unE
 ·rw [h1] at h
  simp only [Bool.false_eq_true, if_false] at h ⊢
  cases h2 : l.any FV
  ·rw [h2] at h
   simp only [Bool.false_eq_true, if_false] at h ⊢
   obtain ⟨a, b, c⟩ := RQ (by simp) h
   exact ⟨trivial, trivial, a, by simpa using b, c⟩
  ·rw [h2] at h; simp at h
 ·rw [h1] at h; simp at h

theorem aBd {l : List aC} (h : (nV l).2 = 0) (r : List aI) : look (groups (nV l).1) r = (qB (dH l r)).1 := by
 obtain ⟨_, _, _, h4, _⟩ := JT h
 rw [h4, UF (JL (VO l)), KQ (by rw [aC0]), LI]

theorem OZ {f : List aB} (h : (qB f).2 = 0) : f.any xE = false ∧ f.any DK = false ∧ iR (CS f) = true ∧ qB f = (CS f, 0) := by
 unfold qB at h ⊢
 cases h1 : f.any xE
 ·rw [h1] at h
  simp only [Bool.false_eq_true, if_false] at h ⊢
  cases h2 : f.any DK
  ·rw [h2] at h
   simp only [Bool.false_eq_true, if_false] at h ⊢
   unfold told at h ⊢
   cases h3 : iR (CS f)
   ·rw [h3] at h; simp at h
   ·simp
  ·rw [h2] at h; simp at h
 ·rw [h1] at h; simp at h

theorem UD {l : List aC} (h : (nV l).2 = 0) (r : List aI) : (qB (dH l r)).2 = 0 := by
 obtain ⟨_, _, h3, _, _⟩ := JT h
 rcases BZ (EM l) r with ⟨e, _⟩ | ⟨g, hg, _, e⟩
 ·rw [LI] at e; rw [e]; rfl
 ·rw [LI] at e; rw [e]; exact h3 g hg

theorem MK {l : List aC} (h : (nV l).2 = 0) : nF (nV l).1 = true := by
 obtain ⟨h1, _, h3, h4, h5⟩ := JT h
 rw [h4] at h5 ⊢
 refine TN (JL (VO l)) (fun g hg => ?_) h5
 obtain ⟨q, hq, rfl⟩ := List.mem_map.1 hg
 have h6 := OZ (h3 q hq)
 obtain ⟨r, hr, rfl⟩ := List.mem_map.1 hq
 obtain ⟨e, he, rfl⟩ := EY.1 hr
 exact ⟨(SC h1 e he).1, by rw [h6.2.2.2]; exact h6.2.2.1⟩

theorem aBk {l : List aC} (h : (nV l).2 ≠ 0) : (nV l).1 = [] := by
 unfold nV at h ⊢
 split
 ·rfl
 ·rename_i h1
  rw [if_neg h1] at h
  split
  ·rfl
  ·rename_i h2
   rw [if_neg h2] at h
   exact OK h

end Go.Abs
namespace Go.Abs
open Go
theorem aB6 {ls : List (List aC)} (hl : ls.length ≤ 1000) (hb : ∀ l ∈ ls, l.length ≤ 1000000) : lp (fun s : Int × Int => dD ls ls (ls.length : Nat) s.1 s.2) (0, 0) = some (((ls.map List.length).sum : Nat) : Int) := by
 have := BP (l := ls) (body := fun s : Int × Int => dD ls ls (ls.length : Nat) s.1 s.2) (fun (n : Nat) i => ((n : Int), i)) (fun n r => ((n + (r.map List.length).sum : Nat) : Int)) (fun n r => n + 1000000 * r.length ≤ 1000000000 ∧ ∀ x ∈ r, x.length ≤ 1000000) 0 ?_ ?_ ⟨by omega, hb⟩
 ·simpa using this
 ·rintro i a r n ha ⟨h1, h2⟩
  left
  obtain ⟨d1, d2, d3, d4⟩ := idx ha (by omega)
  simp only [List.length_cons] at h1
  have h3 := h2 a (by simp)
  have hw : IntKind.i64.wrap ((n : Int) + ((a.length : Nat) : Int)) = ((n + a.length : Nat) : Int) := by rw [fV (by omega) (by omega)]; omega
  refine ⟨n + a.length, ?_, ⟨by omega, fun x hx => h2 x (by simp [hx])⟩, by simp; omega⟩
  show dD _ _ _ _ _ = _
  have hz : decide (((n + a.length : Nat) : Int) < 0) = false := by simp; omega
  simp only [dD, d1, cond_true, aQ d2, d3, d4, hw, hz, cond_false]
 ·rintro n _
  show dD _ _ _ _ _ = _
  simp only [dD, mY, cond_false]
  simp

theorem aES {n : Nat} (h : n ≤ 1000000000) : jM (n : Int) = some [] := by
 unfold jM
 have h1 : decide ((n : Int) < 0) = false := by simp
 have w0 : IntKind.i64.wrap ((0 : Int) - ((0 : Nat) : Int)) = 0 := by rw [fV] <;> omega
 have w1 : IntKind.i64.wrap ((n : Int) - 0) = (n : Int) := by rw [fV (by omega) (by omega)]; omega
 simp only [h1, cond_false, w0, w1]
 by_cases h2 : (0 : Int) < (n : Int)
 ·rw [decide_eq_true h2, cond_true, aQ ⟨by omega, by omega⟩, aQ ⟨by omega, by simp only [Int.toNat_natCast]; omega, by omega⟩, aQ ⟨by omega, by omega⟩]
  rfl
 ·rw [decide_eq_false h2, cond_false]; rfl

theorem aCe {ls : List (List aC)} (hl : ls.length ≤ 1000) (hb : ∀ l ∈ ls, l.length ≤ 1000000) : lp (fun s : List aC × Int => dB ls (ls.length : Nat) s.1 s.2) ([], 0) = some ls.flatten := by
 have := BP (l := ls) (body := fun s : List aC × Int => dB ls (ls.length : Nat) s.1 s.2) (fun o i => (o, i)) (fun o r => o ++ r.flatten) (fun o r => o.length + 1000000 * r.length ≤ 1000000000 ∧ ∀ x ∈ r, x.length ≤ 1000000) [] ?_ ?_ ⟨by simp; omega, hb⟩
 ·simpa using this
 ·rintro i a r o ha ⟨h1, h2⟩
  left
  obtain ⟨d1, d2, d3, d4⟩ := idx ha (by omega)
  simp only [List.length_cons] at h1
  have h3 := h2 a (by simp)
  refine ⟨o ++ a, ?_, ⟨by simp; omega, fun x hx => h2 x (by simp [hx])⟩, by simp⟩
  show dB _ _ _ _ = _
  simp only [dB, d1, cond_true, aQ d2, d3, d4]
  exact aQ ⟨by omega, by omega⟩
 ·rintro o _
  show dB _ _ _ _ = _
  simp only [dB, mY, cond_false]
  simp

theorem aB5 {a b : List aC} (ha : a.length ≤ 1000000) (hb : b.length ≤ 1000000) : iM [a, b] = some (a ++ b) := by
 have hx : ∀ l ∈ [a, b], l.length ≤ 1000000 := by simp [ha, hb]
 unfold iM kY
 rw [aB6 (by simp) hx]
 simp only [Option.bind_some, hU]
 rw [aES (by simp; omega)]
 simp only [Option.bind_some, kS]
 rw [aCe (by simp) hx]
 simp [iC]

def JD (a b : List aC) : List aC × Int := if nF a && nF b then nV (a ++ b) else ([], 2)

theorem aA7 {a b : List aC} (ha : okL a) (hb : okL b) (h : a.length + b.length ≤ 3518437208783) : okL (a ++ b) :=
 ⟨by simpa using h, fun e he => by
  rcases List.mem_append.1 he with h | h
  ·exact ha.2 e h
  ·exact hb.2 e h⟩

theorem aE7 {a b : List aC} (ha : okL a) (hb : okL b) : BX a b = some (JD a b) := by
 unfold BX JD
 rw [HW ha]
 cases h1 : nF a
 ·simp [eD]
 ·simp only [Option.bind_some, Bool.not_true, Bool.not_false, eD, cond_true, HW hb, Bool.false_or]
  cases h2 : nF b
  ·simp
  ·have la := (rM h1).1
   have lb := (rM h2).1
   simp only [Bool.not_true, cond_false, Bool.and_self, if_true]
   rw [aB5 (by omega) (by omega)]
   simp only [Option.bind_some]
   rw [YV (aA7 ha hb (by omega)) (by simp; omega)]
   rfl

def vL : aI := ⟨1, 1, ByteArray.empty⟩

end Go.Abs
namespace Go.Abs
open Go
theorem SN : okL [] := ⟨by simp, by simp⟩

theorem XN {gs : List (List aI × List aB)} (h : ∀ g ∈ gs, g.1.length ≤ 4398046510976) (hl : (flat gs).length ≤ 4096) : okL (flat gs) := by
 refine ⟨by omega, fun e he => ?_⟩
 obtain ⟨g, hg, h1⟩ := List.mem_flatMap.1 he
 obtain ⟨j, _, rfl⟩ := List.mem_map.1 h1
 exact h g hg

theorem aEl {by1 : List aB → List aB × Int} {l : List aC} (hl : okL l) : okL (BJ by1 l).1 := by
 by_cases h : (BJ by1 l).2 = 0
 ·obtain ⟨_, _, h3, h4⟩ := HR h
  rw [h3] at h4 ⊢
  refine XN (fun g hg => ?_) h4
  obtain ⟨q, hq, rfl⟩ := List.mem_map.1 hg
  have := GP hl hq
  exact this
 ·unfold BJ at h ⊢
  split
  ·rename_i hm
   rw [if_pos hm] at h
   rw [OK h]; exact SN
  ·exact SN

theorem aCb {l : List aC} (hl : okL l) : okL (nV l).1 := by
 by_cases h : (nV l).2 = 0
 ·obtain ⟨_, _, _, h4, h5⟩ := JT h
  rw [h4] at h5 ⊢
  refine XN (fun g hg => ?_) h5
  obtain ⟨q, hq, rfl⟩ := List.mem_map.1 hg
  obtain ⟨r, hr, rfl⟩ := List.mem_map.1 hq
  obtain ⟨e, he, rfl⟩ := EY.1 hr
  exact hl.2 e he
 ·rw [aBk h]; exact SN

def yY (l : List aC) (t : Int) : List aC × Int := BJ (fun f => ahead f t) l

theorem aBK {l : List aC} (hl : okL l) (t : Int) : okL (yY l t).1 := aEl hl

theorem aCJ {l : List aC} (hl : okL l) (t : Int) : yJ l t = some (yY l t) := by
 unfold yJ yY
 rw [all_eq hl (by0 := fun y0 => tY y0 t) (by1 := fun f => ahead f t) (fun f => by unfold tY; rw [aD7]; rfl) (fun f => aDk f t)]
 rfl

theorem aCH {f : List aB} {t : Int} (hm : iR f = true) (ht : t < 1125899906842624) (he : (ahead f t).2 = 0) (p : Int) : val (ahead f t).1 p = if p < t then val f p else 0 := by
 unfold ahead at he ⊢
 rw [if_pos hm, if_neg (by omega)] at he ⊢
 unfold told at he ⊢
 split at he
 ·rename_i h; rw [if_pos h]; exact aBB hm p
 ·simp at he

theorem LP {t : Int} (ht0 : 0 ≤ t) : ahead [] t = ([], 0) := by
 unfold ahead
 rw [if_pos aAs]
 split
 ·rfl
 ·rfl

end Go.Abs
namespace Go.Abs
open Go
theorem NZ {σ : Type} {y : σ → List aI → List aB → Option (σ × Bool)} (c : List aC) : ∀ (gs : List (List aI × List aB)) (s s' : σ), itG y gs s = some s' →
  ∃ x, itG (fun st t10 t11 => rnd (fun (s : σ) => oH y c s t10 t11) st) gs (.inl s) = some x ∧ Sum.elim id id x = s'
 | [], s, s', h => by simp only [itG, Option.some.injEq] at h; exact ⟨_, rfl, h⟩
 | g :: gs, s, s', h => by
  simp only [itG] at h
  obtain ⟨z, hz, h⟩ := aW h
  have hl : oH y c s g.1 g.2 = some (if z.2 then .inl z.1 else .inr z.1) := by
   unfold oH
   rw [hz]
   obtain ⟨z1, z2⟩ := z
   cases z2 <;> rfl
  cases h2 : z.2
  ·rw [h2] at h hl
   simp only [Bool.false_eq_true, if_false, Option.some.injEq] at h hl
   refine ⟨.inr z.1, ?_, h⟩
   simp [itG, rnd, hl]
  ·rw [h2] at h hl
   simp only [if_true] at h hl
   obtain ⟨x, h3, h4⟩ := NZ c gs z.1 s' h
   refine ⟨x, ?_, h4⟩
   simp only [itG, rnd, hl, Option.bind_some, Sum.isLeft_inl, if_true]
   exact h3

theorem aBn {σ : Type} {y : σ → List aI → List aB → Option (σ × Bool)} {l : List aC} (hl : okL l) {s s' : σ} (h : itG y (if nF l then groups l else []) s = some s') : tJ y l s = some s' := by
 unfold tJ
 rw [HW hl]
 cases hm : nF l
 ·rw [hm] at h
  simp only [Bool.false_eq_true, if_false, itG] at h
  simpa using h
 ·rw [hm] at h
  simp only [if_true] at h
  simp only [Option.bind_some, Bool.not_true, cond_false, tT, vA]
  obtain ⟨x, h1, h2⟩ := NZ l (groups l) s s' h
  rw [RR hl h1]
  cases x <;> simpa using h2

theorem FB {l : List aC} (hm : nF l = true) {e : aC} (he : e ∈ l) : vG e.Row = true ∧ -2 < e.At ∧ e.At < 1125899906842624 ∧ e.Net ≠ 0 ∧ e.Net ≤ 1048576 ∧ -1048576 ≤ e.Net := by
 obtain ⟨_, h2, _⟩ := rM hm
 have he' : e ∈ flat (groups l) := by rw [xN]; exact he
 obtain ⟨g, hg, h1⟩ := List.mem_flatMap.1 he'
 obtain ⟨j, hj, rfl⟩ := List.mem_map.1 h1
 obtain ⟨a, b⟩ := h2 g hg
 exact ⟨a, (sV.1 b).2.above j hj⟩

theorem aAG {l : List aC} (hm : nF l = true) : l.any unE = false ∧ l.any FV = false := by
 refine ⟨List.any_eq_false.2 fun e he => ?_, List.any_eq_false.2 fun e he => ?_⟩
 ·obtain ⟨h1, h2, h3, h4, h5, h6⟩ := FB hm he
  simp only [unE, h1, Bool.not_true, Bool.false_or, Bool.or_eq_true, decide_eq_true_eq]
  omega
 ·obtain ⟨h1, h2, h3, h4, h5, h6⟩ := FB hm he
  simp only [FV, Bool.or_eq_true, decide_eq_true_eq]
  omega

theorem FF {l : List aC} (hm : nF l = true) (r : List aI) : iR (dH l r) = true := by
 rw [← tM (rM hm).2.2]; exact aCj hm r

end Go.Abs
namespace Go.Abs
open Go
theorem aCL {f : List aB} (h1 : f.any xE = false) (h2 : f.any DK = false) : (qB f).2 = 0 ∨ (qB f).2 = 7 := by
 unfold qB
 rw [if_neg (by simp [h1]), if_neg (by simp [h2])]
 unfold told
 split <;> simp

theorem KJ {l : List aC} (h1 : l.any unE = false) (h2 : l.any FV = false) (r : List aI) : (dH l r).any xE = false ∧ (dH l r).any DK = false := by
 constructor
 ·refine List.any_eq_false.2 fun j hj => ?_
  obtain ⟨e, he, rfl⟩ := List.mem_map.1 hj
  have := SC h1 e (List.mem_filter.1 he).1
  have h3 : (jE e).Net = e.Net := rfl
  simp only [xE, JV, h3, Bool.not_eq_true', Bool.and_eq_false_iff, decide_eq_false_iff_not, not_or, Decidable.not_not, Bool.not_eq_false, Bool.and_eq_true, decide_eq_true_eq]
  omega
 ·refine List.any_eq_false.2 fun j hj => ?_
  obtain ⟨e, he, rfl⟩ := List.mem_map.1 hj
  have := List.any_eq_false.1 h2 e (List.mem_filter.1 he).1
  have h3 : (jE e).At = e.At := rfl
  simp only [FV, Bool.or_eq_true, decide_eq_true_eq, not_or] at this
  simp only [DK, h3, Bool.or_eq_true, decide_eq_true_eq]
  omega

end Go.Abs
namespace Go.Abs
open Go
theorem aDw {l : List aC} (h1 : l.any unE = false) (h2 : l.any FV = false) : ∀ g ∈ EM l, (qB g.2).2 = 0 ∨ (qB g.2).2 = 7 := by
 intro g hg
 obtain ⟨r, _, rfl⟩ := List.mem_map.1 hg
 exact aCL (KJ h1 h2 r).1 (KJ h1 h2 r).2

end Go.Abs
namespace Go.Abs
open Go
theorem aAF {c : Int} : ∀ {l : List Int} {m : Int}, c ≤ l.foldl mn m ↔ c ≤ m ∧ ∀ x ∈ l, c ≤ x
 | [], m => by simp
 | a :: l, m => by
  rw [List.foldl_cons, aAF]
  unfold mn
  constructor
  ·rintro ⟨h1, h2⟩
   have h3 : c ≤ m ∧ c ≤ a := by split at h1 <;> omega
   refine ⟨h3.1, fun x hx => ?_⟩
   rcases List.mem_cons.1 hx with rfl | hx
   ·exact h3.2
   ·exact h2 x hx
  ·rintro ⟨h1, h2⟩
   have := h2 a (by simp)
   exact ⟨by split <;> omega, fun x hx => h2 x (by simp [hx])⟩

theorem SV {t : Int} : ∀ {f : List aB} {l v : Int}, wM l f → v + val f t = v ∨ v + val f t ∈ parts v f
 | [], l, v, _ => .inl (by simp [val])
 | j :: r, l, v, h => by
  unfold parts
  rw [eE]
  by_cases e : j.At ≤ t
  ·rw [if_pos e]
   right
   rcases SV (t := t) (v := v + j.Net) h.2 with h1 | h1
   ·rw [show v + (j.Net + val r t) = v + j.Net by omega]; simp
   ·rw [show v + (j.Net + val r t) = v + j.Net + val r t by omega]; exact List.mem_cons_of_mem _ h1
  ·left
   rw [if_neg e, h.2.EU (by omega)]; omega

theorem UC {f : List aB} (hf : iR f = true) : 0 ≤ IF f ↔ ∀ t, 0 ≤ val f t := by
 have hr := (sV.1 hf).2
 unfold IF
 rw [aAF]
 constructor
 ·rintro ⟨_, h2⟩ t
  rcases SV (t := t) (v := 0) hr with h | h
  ·omega
  ·rw [parts_eq hr] at h
   obtain ⟨j, hj, h⟩ := List.mem_map.1 h
   have := h2 _ (List.mem_map.2 ⟨j, hj, rfl⟩)
   omega
 ·intro h
  refine ⟨h _, fun x hx => ?_⟩
  obtain ⟨j, _, rfl⟩ := List.mem_map.1 hx
  exact h _

theorem aBg {l : List aC} : EL l = true ↔ nF l = true ∧ ∀ r t, 0 ≤ val (dH l r) t := by
 constructor
 ·intro h
  unfold EL at h
  rw [Bool.and_eq_true, BN] at h
  obtain ⟨h1, h2, h3, _⟩ := h
  have hm : nF l = true := by
   unfold nF
   rw [Bool.and_eq_true]
   exact ⟨h1, BN.2 ⟨fun g hg => ⟨(h2 g hg).1, by have := (h2 g hg).2; unfold SG at this; rw [Bool.and_eq_true] at this; exact this.1⟩, h3, fun q hq => by cases hq⟩⟩
  refine ⟨hm, fun r => ?_⟩
  rw [← tM h3]
  rcases BZ (groups l) r with ⟨e, _⟩ | ⟨g, hg, _, e⟩
  ·rw [e]; intro t; simp [val]
  ·rw [e]
   have := (h2 g hg).2
   unfold SG at this
   rw [Bool.and_eq_true, decide_eq_true_eq] at this
   exact (UC this.1).1 this.2
 ·rintro ⟨hm, h⟩
  obtain ⟨h1, h2, h3⟩ := rM hm
  unfold EL
  rw [Bool.and_eq_true]
  refine ⟨by simpa using h1, BN.2 ⟨fun g hg => ⟨(h2 g hg).1, ?_⟩, h3, fun q hq => by cases hq⟩⟩
  unfold SG
  rw [Bool.and_eq_true, decide_eq_true_eq]
  refine ⟨(h2 g hg).2, (UC (h2 g hg).2).2 ?_⟩
  have : g.2 = dH l g.1 := by rw [← tM h3, DE h3 hg]
  rw [this]; exact h g.1

theorem ZH {l : List aC} (h : (nV l).2 = 0) (r : List aI) : dH (nV l).1 r = CS (dH l r) := by
 rw [← tM (rM (MK h)).2.2, aBd h, (OZ (UD h r)).2.2.2]

theorem ZB {l : List aC} (h : (nV l).2 = 0) (r : List aI) : ∀ j ∈ dH l r, -2 < j.At :=
 fun j hj => (GB (OZ (UD h r)).2.1 j hj).1

theorem TH {l : List aC} (h : (nV l).2 = 0) (r : List aI) {t : Int} (h1 : -2 < t) (h2 : t < 1125899906842624) : val (dH (nV l).1 r) t = val (dH l r) t := by
 rw [ZH h, TV (ZB h r) h1 h2]

end Go.Abs
namespace Go.Abs
open Go
abbrev gN (d : List Int) (i : Nat) : Int := d.getD i default

def swp (d : List Int) (i j : Nat) : List Int := (d.set i (gN d j)).set j (gN d i)

theorem aBU {d : List Int} {i k : Nat} {x : Int} (h : i < d.length) : gN (d.set i x) k = if k = i then x else gN d k := by
 simp only [gN, List.getD_eq_getElem?_getD, List.getElem?_set]
 by_cases e : i = k
 ·subst e; simp [h]
 ·rw [if_neg e, if_neg (fun h => e h.symm)]

theorem iP (d : List Int) (i j : Nat) : (swp d i j).length = d.length := by simp [swp]

theorem xO {d : List Int} {i j : Nat} (hi : i < d.length) (hj : j < d.length) (k : Nat) : gN (swp d i j) k = if k = j then gN d i else if k = i then gN d j else gN d k := by
 unfold swp
 rw [aBU (by simpa using hj), aBU hi]

theorem aDY {d : List Int} {i j : Nat} (hi : i < d.length) (hj : j < d.length) : (swp d i j).Perm d := by
 have h1 : gN d i = d[i] := by simp [gN, List.getD_eq_getElem?_getD, List.getElem?_eq_getElem hi]
 have h2 : gN d j = d[j] := by simp [gN, List.getD_eq_getElem?_getD, List.getElem?_eq_getElem hj]
 unfold swp
 rw [h1, h2]
 exact List.set_set_perm hi hj

structure Rel (a b : Nat) (d d' : List Int) : Prop where
 len : d'.length = d.length
 perm : d'.Perm d
 out : ∀ k, k < a ∨ b ≤ k → gN d' k = gN d k
 src : ∀ k, a ≤ k → k < b → ∃ k', a ≤ k' ∧ k' < b ∧ gN d' k = gN d k'

theorem Rel.refl (a b : Nat) (d : List Int) : Rel a b d d := ⟨rfl, .refl _, fun _ _ => rfl, fun k h1 h2 => ⟨k, h1, h2, rfl⟩⟩

theorem Rel.trans {a b : Nat} {d d' d'' : List Int} (h : Rel a b d d') (h' : Rel a b d' d'') : Rel a b d d'' :=
 ⟨h'.len.trans h.len, h'.perm.trans h.perm, fun k hk => (h'.out k hk).trans (h.out k hk), fun k h1 h2 => by
  obtain ⟨k1, a1, a2, a3⟩ := h'.src k h1 h2
  obtain ⟨k2, b1, b2, b3⟩ := h.src k1 a1 a2
  exact ⟨k2, b1, b2, a3.trans b3⟩⟩

theorem Rel.mono {a b a' b' : Nat} {d d' : List Int} (h : Rel a b d d') (h1 : a' ≤ a) (h2 : b ≤ b') : Rel a' b' d d' :=
 ⟨h.len, h.perm, fun k hk => h.out k (by omega), fun k k1 k2 => by
  by_cases hk : a ≤ k ∧ k < b
  ·obtain ⟨k', c1, c2, c3⟩ := h.src k hk.1 hk.2
   exact ⟨k', by omega, by omega, c3⟩
  ·exact ⟨k, k1, k2, h.out k (by omega)⟩⟩

theorem Rel.swp {a b : Nat} {d : List Int} {i j : Nat} (hi : i < d.length) (hj : j < d.length) (h1 : a ≤ i ∧ i < b) (h2 : a ≤ j ∧ j < b) : Rel a b d (swp d i j) :=
 ⟨iP .., aDY hi hj, fun k hk => by rw [xO hi hj, if_neg (by omega), if_neg (by omega)], fun k k1 k2 => by
  rw [xO hi hj]
  split
  ·exact ⟨i, h1.1, h1.2, rfl⟩
  ·split
   ·exact ⟨j, h2.1, h2.2, rfl⟩
   ·exact ⟨k, k1, k2, rfl⟩⟩

theorem Rel.all {a b : Nat} {d d' : List Int} (h : Rel a b d d') {p : Int → Prop} (hp : ∀ k, a ≤ k → k < b → p (gN d k)) : ∀ k, a ≤ k → k < b → p (gN d' k) := fun k k1 k2 => by
 obtain ⟨k', c1, c2, c3⟩ := h.src k k1 k2
 rw [c3]; exact hp k' c1 c2

def uK (a b : Nat) (d : List Int) : Prop := ∀ p q, a ≤ p → p ≤ q → q < b → gN d p ≤ gN d q

theorem wC (a b : Int) : dQ a b = some (decide (a < b)) := by simp [dQ, nQ, eD]

theorem wrN {x : Int} {n : Nat} (h : x = (n : Int)) (hn : n ≤ 9000000000000000000) : IntKind.i64.wrap x = (n : Int) := by
 rw [fV (by omega) (by omega), h]

theorem asN {i n : Nat} (h : i < n) : 0 ≤ (i : Int) ∧ (i : Int) < ((n : Nat) : Int) := by omega

theorem WZ {a b i : Int} {d : List Int} {lo j : Nat} (ha : a = (lo : Nat)) (h1 : lo ≤ j) (hj : j < d.length) (hl : d.length < 4611686018427387904) :
  fN a b i d (j : Nat) = if lo < j ∧ gN d j < gN d (j - 1) then some (.inl (swp d j (j - 1), ((j - 1 : Nat) : Int))) else some (.inr d) := by
 subst ha
 unfold fN
 by_cases h : lo < j
 ·have e1 : IntKind.i64.wrap ((j : Int) - 1) = ((j - 1 : Nat) : Int) := wrN (by omega) (by omega)
  have d1 : decide (((lo : Nat) : Int) < ((j : Nat) : Int)) = true := by simp; omega
  rw [e1, d1]
  simp only [true_and, Int.toNat_natCast, wC, eD, cond_true, Option.bind_some, Bool.true_and]
  rw [aQ fun _ => asN hj, aQ fun _ => asN (by omega)]
  by_cases h2 : gN d j < gN d (j - 1)
  ·rw [if_pos ⟨h, h2⟩]
   simp only [gN] at h2
   simp only [h2, decide_true, cond_true]
   rw [aQ (asN (by omega)), aQ (asN hj), aQ (asN hj), aQ (asN (by omega))]
   rfl
  ·rw [if_neg (fun hh => h2 hh.2)]
   simp only [gN] at h2
   simp only [h2, decide_false, cond_false]
 ·have d1 : decide (((lo : Nat) : Int) < ((j : Nat) : Int)) = false := by simp; omega
  rw [if_neg (fun hh => h hh.1), d1]
  simp only [Bool.false_eq_true, false_implies, eD, cond_false, Option.bind_some, Bool.false_and]
  rw [aQ trivial, aQ trivial]

structure LA (a j i : Nat) (d : List Int) : Prop where
 oth : ∀ p q, a ≤ p → p ≤ q → q ≤ i → p ≠ j → q ≠ j → gN d p ≤ gN d q
 up : ∀ q, j < q → q ≤ i → gN d j ≤ gN d q

theorem LA.done {a j i : Nat} {d : List Int} (h : LA a j i d) (hj : a ≤ j) (hn : ¬ (a < j ∧ gN d j < gN d (j - 1))) : uK a (i + 1) d := by
 intro p q h1 h2 h3
 by_cases hp : p = j
 ·by_cases hq : q = j
  ·subst hp; subst hq; exact Int.le_refl _
  ·subst hp; exact h.up q (by omega) (by omega)
 ·by_cases hq : q = j
  ·subst hq
   have h4 : ¬ gN d q < gN d (q - 1) := fun hh => hn ⟨by omega, hh⟩
   have := h.oth p (q - 1) h1 (by omega) (by omega) hp (by omega)
   omega
  ·exact h.oth p q h1 h2 (by omega) hp hq

theorem LA.next {a j i : Nat} {d : List Int} (h : LA a j i d) (hj : a < j) (hji : j ≤ i) (hi : i < d.length) (hlt : gN d j < gN d (j - 1)) : LA a (j - 1) i (swp d j (j - 1)) := by
 have g := xO (d := d) (i := j) (j := j - 1) (by omega) (by omega)
 refine ⟨fun p q h1 h2 h3 hp hq => ?_, fun q h1 h2 => ?_⟩
 ·rw [g, g, if_neg hp, if_neg hq]
  by_cases hpj : p = j
  ·rw [if_pos hpj]
   by_cases hqj : q = j
   ·rw [if_pos hqj]; exact Int.le_refl _
   ·rw [if_neg hqj]; exact h.oth (j - 1) q (by omega) (by omega) h3 (by omega) hqj
  ·rw [if_neg hpj]
   by_cases hqj : q = j
   ·rw [if_pos hqj]; exact h.oth p (j - 1) h1 (by omega) (by omega) hpj (by omega)
   ·rw [if_neg hqj]; exact h.oth p q h1 h2 h3 hpj hqj
 ·rw [g, g, if_pos rfl, if_neg (by omega)]
  by_cases hqj : q = j
  ·rw [if_pos hqj]; omega
  ·rw [if_neg hqj]; exact h.up q (by omega) h2

theorem aFV {a b i : Int} {lo hi : Nat} (ha : a = (lo : Nat)) : ∀ (j : Nat) (d : List Int), lo ≤ j → j ≤ hi → hi < d.length → d.length < 4611686018427387904 → LA lo j hi d →
  ∃ d', lp (fun s : List Int × Int => fN a b i s.1 s.2) (d, (j : Int)) = some d' ∧ Rel lo (hi + 1) d d' ∧ uK lo (hi + 1) d' := by
 intro j
 induction j with
 | zero =>
  intro d h1 h2 h3 h4 h5
  have hs := WZ (a := a) (b := b) (i := i) ha h1 (by omega) h4 (d := d)
  rw [if_neg (by omega)] at hs
  exact ⟨d, cE hs, Rel.refl .., h5.done h1 (by omega)⟩
 | succ j ih =>
  intro d h1 h2 h3 h4 h5
  have hs := WZ (a := a) (b := b) (i := i) ha h1 (by omega) h4 (d := d)
  by_cases h : lo < j + 1 ∧ gN d (j + 1) < gN d (j + 1 - 1)
  ·rw [if_pos h] at hs
   obtain ⟨d', e, r, s⟩ := ih (swp d (j + 1) (j + 1 - 1)) (by omega) (by omega) (by rw [iP]; omega) (by rw [iP]; omega) (h5.next h.1 h2 h3 h.2)
   exact ⟨d', (dO hs).trans e, (Rel.swp (by omega) (by omega) (by omega) (by omega)).trans r, s⟩
  ·rw [if_neg h] at hs
   exact ⟨d, cE hs, Rel.refl .., h5.done h1 h⟩

theorem ZE {a b : Int} {lo hi : Nat} (ha : a = (lo : Nat)) (hb : b = (hi : Nat)) : ∀ (n i : Nat) (d : List Int), hi - i = n → lo < i → hi ≤ d.length → d.length < 4611686018427387904 → uK lo i d → (i ≤ hi ∨ hi ≤ i) →
  ∃ d', lp (fun s : List Int × Int => dR a b s.1 s.2) (d, (i : Int)) = some d' ∧ Rel lo hi d d' ∧ uK lo hi d' := by
 intro n
 induction n with
 | zero =>
  intro i d h1 h2 h3 h4 h5 _
  refine ⟨d, cE ?_, Rel.refl .., fun p q p1 p2 p3 => h5 p q p1 p2 (by omega)⟩
  show dR _ _ _ _ = _
  have : decide (((i : Nat) : Int) < b) = false := by simp; omega
  simp only [dR, this, cond_false]
 | succ n ih =>
  intro i d h1 h2 h3 h4 h5 _
  obtain ⟨d1, e, r, s⟩ := aFV (a := a) (b := b) (i := (i : Int)) (hi := i) ha i d (by omega) (Nat.le_refl _) (by omega) h4 ⟨fun p q p1 p2 p3 p4 p5 => h5 p q p1 p2 (by omega), fun q q1 q2 => by omega⟩
  obtain ⟨d2, e2, r2, s2⟩ := ih (i + 1) d1 (by omega) (by omega) (by rw [r.len]; exact h3) (by rw [r.len]; exact h4) s (by omega)
  refine ⟨d2, ?_, (r.mono (Nat.le_refl _) (by omega)).trans r2, s2⟩
  rw [dO (s' := (d1, ((i + 1 : Nat) : Int))) ?_, e2]
  show dR _ _ _ _ = _
  have : decide (((i : Nat) : Int) < b) = true := by simp; omega
  simp only [dR, this, cond_true, kR]
  rw [e]
  simp only [Option.bind_some, gZ]
  rw [wrN (n := i + 1) (by omega) (by omega)]

theorem PD (lo : Nat) (d : List Int) : uK lo (lo + 1) d := fun p q p1 p2 p3 => by
 have : p = q := by omega
 subst this
 exact Int.le_refl _

theorem aDU {lo hi : Nat} {d : List Int} (h3 : hi ≤ d.length) (h4 : d.length < 4611686018427387904) (h0 : lo ≤ hi) : ∃ d', iJ d (lo : Int) (hi : Int) = some d' ∧ Rel lo hi d d' ∧ uK lo hi d' := by
 unfold iJ lJ
 obtain ⟨d', e, r, s⟩ := ZE (a := (lo : Int)) (b := (hi : Int)) (lo := lo) (hi := hi) rfl rfl (hi - (lo + 1)) (lo + 1) d rfl (by omega) h3 h4 (PD lo d) (by omega)
 rw [wrN (n := lo + 1) (by omega) (by omega), e]
 exact ⟨d', rfl, r, s⟩

theorem aFW {lo hi : Nat} : ∀ (n i j : Nat) (d : List Int), j + 1 - i = n → lo ≤ i → j + 1 ≤ hi ∨ j ≤ i → hi ≤ d.length → d.length < 4611686018427387904 → i < 4611686018427387904 → j < 4611686018427387904 →
  ∃ d', lp (fun s : List Int × Int × Int => dX s.1 s.2.1 s.2.2) (d, (i : Int), (j : Int)) = some d' ∧ Rel lo hi d d' := by
 intro n
 induction n using Nat.strongRecOn with
 | ind n ih =>
  intro i j d h1 h2 h3 h4 h5 h6 h7
  by_cases h : i < j
  ·obtain ⟨d', e, r⟩ := ih (j - 1 + 1 - (i + 1)) (by omega) (i + 1) (j - 1) (swp d i j) rfl (by omega) (by omega) (by rw [iP]; exact h4) (by rw [iP]; exact h5) (by omega) (by omega)
   refine ⟨d', ?_, (Rel.swp (by omega) (by omega) (by omega) (by omega)).trans r⟩
   rw [dO (s' := (swp d i j, ((i + 1 : Nat) : Int), ((j - 1 : Nat) : Int))) ?_, e]
   show dX _ _ _ = _
   have : decide (((i : Nat) : Int) < ((j : Nat) : Int)) = true := by simp; omega
   simp only [dX, this, cond_true, Int.toNat_natCast]
   rw [aQ (asN (by omega)), aQ (asN (by omega)), aQ (asN (by omega)), aQ (asN (by omega)), wrN (n := i + 1) (by omega) (by omega), wrN (n := j - 1) (by omega) (by omega)]
   rfl
  ·refine ⟨d, cE ?_, Rel.refl ..⟩
   show dX _ _ _ = _
   have : decide (((i : Nat) : Int) < ((j : Nat) : Int)) = false := by simp; omega
   simp only [dX, this, cond_false]

theorem aBY {lo hi : Nat} {d : List Int} (h0 : lo < hi) (h3 : hi ≤ d.length) (h4 : d.length < 4611686018427387904) : ∃ d', jB d (lo : Int) (hi : Int) = some d' ∧ Rel lo hi d d' := by
 unfold jB lS
 obtain ⟨d', e, r⟩ := aFW (lo := lo) (hi := hi) (hi - 1 + 1 - lo) lo (hi - 1) d rfl (Nat.le_refl _) (by omega) h3 h4 (by omega) (by omega)
 rw [wrN (n := hi - 1) (by omega) (by omega), e]
 exact ⟨d', rfl, r⟩

end Go.Abs
namespace Go.Abs
open Go
def CX (f hi : Nat) (d : List Int) (r : Nat) : Nat := if 2 * r + 2 < hi ∧ gN d (f + (2 * r + 1)) < gN d (f + (2 * r + 2)) then 2 * r + 2 else 2 * r + 1

theorem SO {f hi r c : Nat} {d : List Int} (hf : f + hi ≤ d.length) (hr : r < hi) (hc : c < hi) (hl : d.length < 2305843009213693951) :
  iE d (hi : Nat) (f : Nat) (r : Nat) (c : Nat) = if gN d (f + r) < gN d (f + c) then some (.inl (swp d (f + r) (f + c), (c : Int))) else some (.inr (.inr d)) := by
 unfold iE
 have e1 : IntKind.i64.wrap ((f : Int) + (r : Int)) = ((f + r : Nat) : Int) := wrN (by omega) (by omega)
 have e2 : IntKind.i64.wrap ((f : Int) + (c : Int)) = ((f + c : Nat) : Int) := wrN (by omega) (by omega)
 rw [e1, e2]
 simp only [Int.toNat_natCast, wC, Option.bind_some]
 rw [aQ (asN (by omega)), aQ (asN (by omega))]
 by_cases h : gN d (f + r) < gN d (f + c)
 ·rw [if_pos h]
  simp only [gN] at h
  simp only [h, decide_true, Bool.not_true, cond_false]
  rw [aQ (asN (by omega)), aQ (asN (by omega)), aQ (asN (by omega)), aQ (asN (by omega))]
  rfl
 ·rw [if_neg h]
  simp only [gN] at h
  simp only [h, decide_false, Bool.not_false, cond_true]

theorem aDf {f hi r : Nat} {d : List Int} (hf : f + hi ≤ d.length) (hr : r < hi) (hl : d.length < 2305843009213693951) :
  dM (hi : Nat) (f : Nat) d (r : Nat) = if hi ≤ 2 * r + 1 then some (.inr (.inl d)) else if gN d (f + r) < gN d (f + CX f hi d r) then some (.inl (swp d (f + r) (f + CX f hi d r), (CX f hi d r : Int))) else some (.inr (.inr d)) := by
 unfold dM
 have e1 : IntKind.i64.wrap (IntKind.i64.wrap ((2 : Int) * (r : Int)) + 1) = ((2 * r + 1 : Nat) : Int) := by
  rw [wrN (x := (2 : Int) * (r : Int)) (n := 2 * r) (by omega) (by omega)]; exact wrN (by omega) (by omega)
 have e2 : IntKind.i64.wrap (((2 * r + 1 : Nat) : Int) + 1) = ((2 * r + 2 : Nat) : Int) := wrN (by omega) (by omega)
 simp only [e1, e2]
 by_cases h : hi ≤ 2 * r + 1
 ·rw [if_pos h]
  have : decide (((hi : Nat) : Int) ≤ ((2 * r + 1 : Nat) : Int)) = true := by simp; omega
  rw [this, cond_true]
 ·rw [if_neg h]
  have d1 : decide (((hi : Nat) : Int) ≤ ((2 * r + 1 : Nat) : Int)) = false := by simp; omega
  rw [d1, cond_false]
  by_cases h2 : 2 * r + 2 < hi
  ·have d2 : decide (((2 * r + 2 : Nat) : Int) < ((hi : Nat) : Int)) = true := by simp; omega
   have e3 : IntKind.i64.wrap ((f : Int) + ((2 * r + 1 : Nat) : Int)) = ((f + (2 * r + 1) : Nat) : Int) := wrN (by omega) (by omega)
   have e4 : IntKind.i64.wrap (((f + (2 * r + 1) : Nat) : Int) + 1) = ((f + (2 * r + 2) : Nat) : Int) := wrN (by omega) (by omega)
   simp only [d2, e3, e4, Int.toNat_natCast, wC, eD, cond_true, Option.bind_some, Bool.true_and]
   rw [aQ fun _ => asN (by omega), aQ fun _ => asN (by omega)]
   by_cases h3 : gN d (f + (2 * r + 1)) < gN d (f + (2 * r + 2))
   ·have hb : CX f hi d r = 2 * r + 2 := if_pos ⟨h2, h3⟩
    simp only [gN] at h3
    simp only [h3, decide_true, cond_true]
    rw [SO hf hr h2 hl, hb]
   ·have hb : CX f hi d r = 2 * r + 1 := if_neg fun hh => h3 hh.2
    simp only [gN] at h3
    simp only [h3, decide_false, cond_false]
    rw [SO hf hr (by omega) hl, hb]
  ·have d2 : decide (((2 * r + 2 : Nat) : Int) < ((hi : Nat) : Int)) = false := by simp; omega
   have hb : CX f hi d r = 2 * r + 1 := if_neg fun hh => h2 hh.1
   simp only [d2, Bool.false_eq_true, false_implies, eD, cond_false, Option.bind_some, Bool.false_and]
   rw [aQ trivial, aQ trivial, SO hf hr (by omega) hl, hb]

def chd (c p : Nat) : Prop := c = 2 * p + 1 ∨ c = 2 * p + 2

def Hp (f lo hi : Nat) (d : List Int) : Prop := ∀ i c, lo ≤ i → chd c i → c < hi → gN d (f + c) ≤ gN d (f + i)

structure HpX (f lo hi r : Nat) (d : List Int) : Prop where
 oth : ∀ i c, lo ≤ i → i ≠ r → chd c i → c < hi → gN d (f + c) ≤ gN d (f + i)
 up : ∀ p c, lo ≤ p → chd r p → chd c r → c < hi → gN d (f + c) ≤ gN d (f + p)

theorem aDq {f hi r : Nat} {d : List Int} (h : ¬ hi ≤ 2 * r + 1) : chd (CX f hi d r) r ∧ CX f hi d r < hi ∧ ∀ c, chd c r → c < hi → gN d (f + c) ≤ gN d (f + CX f hi d r) := by
 unfold CX
 split
 ·rename_i h1
  refine ⟨.inr rfl, h1.1, fun c hc hlt => ?_⟩
  rcases hc with rfl | rfl
  ·omega
  ·exact Int.le_refl _
 ·rename_i h1
  refine ⟨.inl rfl, by omega, fun c hc hlt => ?_⟩
  rcases hc with rfl | rfl
  ·exact Int.le_refl _
  ·have : ¬ gN d (f + (2 * r + 1)) < gN d (f + (2 * r + 2)) := fun hh => h1 ⟨hlt, hh⟩
   omega

theorem HpX.done {f lo hi r : Nat} {d : List Int} (h : HpX f lo hi r d) (hr : ∀ c, chd c r → c < hi → gN d (f + c) ≤ gN d (f + r)) : Hp f lo hi d := by
 intro i c h1 h2 h3
 by_cases e : i = r
 ·subst e; exact hr c h2 h3
 ·exact h.oth i c h1 e h2 h3

theorem HpX.next {f lo hi r c : Nat} {d : List Int} (h : HpX f lo hi r d) (hf : f + hi ≤ d.length) (hlo : lo ≤ r) (hrh : r < hi) (hc : chd c r) (hch : c < hi) (hbig : ∀ k, chd k r → k < hi → gN d (f + k) ≤ gN d (f + c)) (hlt : gN d (f + r) < gN d (f + c)) : HpX f lo hi c (swp d (f + r) (f + c)) := by
 have g := xO (d := d) (i := f + r) (j := f + c) (by omega) (by omega)
 have hcr : r < c := by unfold chd at hc; omega
 refine ⟨fun i k h1 h2 h3 h4 => ?_, fun p k h1 h2 h3 h4 => ?_⟩
 ·rw [g, g, if_neg (show ¬ f + i = f + c by omega)]
  by_cases hir : i = r
  ·subst hir
   rw [if_pos (show f + i = f + i from rfl)]
   by_cases hkc : k = c
   ·subst hkc; rw [if_pos rfl]; omega
   ·rw [if_neg (by omega), if_neg (by unfold chd at h3; omega)]
    exact hbig k h3 h4
  ·rw [if_neg (show ¬ f + i = f + r by omega)]
   have hkc : k ≠ c := by intro e; subst e; unfold chd at h3 hc; omega
   rw [if_neg (by omega)]
   by_cases hkr : k = r
   ·subst hkr
    rw [if_pos rfl]
    exact h.up i c h1 h3 hc hch
   ·rw [if_neg (by omega)]
    exact h.oth i k h1 hir h3 h4
 ·have hp : p = r := by unfold chd at h2 hc; omega
  subst hp
  have hk : c < k := by unfold chd at h3; omega
  rw [g, g, if_neg (by omega), if_neg (by omega), if_neg (by omega), if_pos rfl]
  exact h.oth c k (by omega) (by omega) h3 h4

theorem aFe {f lo hi : Nat} : ∀ (n r : Nat) (d : List Int), hi - r = n → f + hi ≤ d.length → lo ≤ r → r < hi → d.length < 2305843009213693951 → HpX f lo hi r d →
  ∃ d', (lp (fun s : List Int × Int => dM (hi : Nat) (f : Nat) s.1 s.2) (d, (r : Int)) = some (.inl d') ∨ lp (fun s : List Int × Int => dM (hi : Nat) (f : Nat) s.1 s.2) (d, (r : Int)) = some (.inr d')) ∧ Rel f (f + hi) d d' ∧ Hp f lo hi d' := by
 intro n
 induction n using Nat.strongRecOn with
 | ind n ih =>
  intro r d h1 h2 h3 h4 h5 h6
  have hs := aDf h2 h4 h5
  by_cases h : hi ≤ 2 * r + 1
  ·rw [if_pos h] at hs
   exact ⟨d, .inl (cE hs), Rel.refl .., h6.done fun c hc hlt => by unfold chd at hc; omega⟩
  ·rw [if_neg h] at hs
   obtain ⟨b1, b2, b3⟩ := aDq (f := f) (d := d) h
   by_cases hlt : gN d (f + r) < gN d (f + CX f hi d r)
   ·rw [if_pos hlt] at hs
    have hb : r < CX f hi d r := by unfold chd at b1; omega
    obtain ⟨d', e, rl, hp⟩ := ih (hi - CX f hi d r) (by omega) (CX f hi d r) _ rfl (by rw [iP]; exact h2) (by omega) b2 (by rw [iP]; exact h5) (h6.next h2 h3 h4 b1 b2 b3 hlt)
    exact ⟨d', e.imp (fun e => (dO hs).trans e) (fun e => (dO hs).trans e), (Rel.swp (by omega) (by omega) (by omega) (by omega)).trans rl, hp⟩
   ·rw [if_neg hlt] at hs
    exact ⟨d, .inr (cE hs), Rel.refl .., h6.done fun c hc hc2 => by have := b3 c hc hc2; omega⟩

theorem aAD {f lo hi : Nat} {d : List Int} (h2 : f + hi ≤ d.length) (h5 : d.length < 2305843009213693951) (hlo : lo < 2305843009213693951) (h6 : HpX f lo hi lo d) :
  ∃ d', fU d (lo : Nat) (hi : Nat) (f : Nat) = some d' ∧ Rel f (f + hi) d d' ∧ Hp f lo hi d' := by
 unfold fU nY
 by_cases h : lo < hi
 ·obtain ⟨d', e, r, p⟩ := aFe (hi - lo) lo d rfl h2 (Nat.le_refl _) h h5 h6
  rcases e with e | e <;> rw [e] <;> exact ⟨d', rfl, r, p⟩
 ·refine ⟨d, ?_, Rel.refl .., fun i c h1 hc hlt => by unfold chd at hc; omega⟩
  have hs : dM (hi : Nat) (f : Nat) d (lo : Nat) = some (.inr (.inl d)) := by
   unfold dM
   have e1 : IntKind.i64.wrap (IntKind.i64.wrap ((2 : Int) * (lo : Int)) + 1) = ((2 * lo + 1 : Nat) : Int) := by
    rw [wrN (x := (2 : Int) * (lo : Int)) (n := 2 * lo) (by omega) (by omega)]; exact wrN (by omega) (by omega)
   have : decide (((hi : Nat) : Int) ≤ ((2 * lo + 1 : Nat) : Int)) = true := by simp; omega
   simp only [e1, this, cond_true]
  rw [cE (show (fun s : List Int × Int => dM (hi : Nat) (f : Nat) s.1 s.2) (d, (lo : Int)) = _ from hs)]
  rfl

theorem aCg {f k : Nat} {d : List Int} (h : Hp f 0 k d) : ∀ i, i < k → gN d (f + i) ≤ gN d f := by
 intro i
 induction i using Nat.strongRecOn with
 | ind i ih =>
  intro hi
  by_cases h0 : i = 0
  ·subst h0; exact Int.le_refl _
  ·have h1 := h ((i - 1) / 2) i (Nat.zero_le _) (by unfold chd; omega) hi
   have h2 := ih ((i - 1) / 2) (by omega) (by omega)
   omega

theorem aAo {f hi : Nat} : ∀ (k : Nat) (d : List Int), f + hi ≤ d.length → k < 2305843009213693951 → d.length < 2305843009213693951 → Hp f k hi d →
  ∃ d', lp (fun s : List Int × Int => eT (f : Nat) 0 (hi : Nat) s.1 s.2) (d, (k : Int) - 1) = some d' ∧ Rel f (f + hi) d d' ∧ Hp f 0 hi d'
 | 0, d, _, _, _, h => by
  refine ⟨d, cE ?_, Rel.refl .., h⟩
  show eT _ _ _ _ _ = _
  have : decide ((0 : Int) ≤ ((0 : Nat) : Int) - 1) = false := by simp
  simp only [eT, this, cond_false]
 | k + 1, d, h1, h2, h3, h => by
  obtain ⟨d1, e, r, p⟩ := aAD (f := f) (lo := k) (hi := hi) h1 h3 (by omega) ⟨fun i c a1 a2 a3 a4 => h i c (by omega) a3 a4, fun p c a1 a2 => by unfold chd at a2; omega⟩
  obtain ⟨d2, e2, r2, p2⟩ := aAo (f := f) (hi := hi) k d1 (by rw [r.len]; exact h1) (by omega) (by rw [r.len]; exact h3) p
  refine ⟨d2, ?_, r.trans r2, p2⟩
  rw [dO (s' := (d1, (k : Int) - 1)) ?_, e2]
  show eT _ _ _ _ _ = _
  have g1 : (((k + 1 : Nat) : Int) - 1) = (k : Int) := by omega
  have g2 : decide ((0 : Int) ≤ (k : Int)) = true := by simp
  simp only [eT, g1, g2, cond_true, e, Option.bind_some]
  rw [fV (by omega) (by omega)]

theorem aDp {f n : Nat} : ∀ (k : Nat) (d : List Int), k ≤ n → f + n ≤ d.length → d.length < 2305843009213693951 → Hp f 0 k d → uK (f + k) (f + n) d → (∀ p q, f ≤ p → p < f + k → f + k ≤ q → q < f + n → gN d p ≤ gN d q) →
  ∃ d', lp (fun s : List Int × Int => eS (f : Nat) 0 s.1 s.2) (d, (k : Int) - 1) = some d' ∧ Rel f (f + n) d d' ∧ uK f (f + n) d'
 | 0, d, _, _, _, _, hs, _ => by
  refine ⟨d, cE ?_, Rel.refl .., hs⟩
  show eS _ _ _ _ = _
  have : decide ((0 : Int) ≤ ((0 : Nat) : Int) - 1) = false := by simp
  simp only [eS, this, cond_false]
 | k + 1, d, h1, h2, h3, h, hs, hb => by
  have g := xO (d := d) (i := f) (j := f + k) (by omega) (by omega)
  have hroot := aCg h
  obtain ⟨d1, e, r, p⟩ := aAD (f := f) (lo := 0) (hi := k) (d := swp d f (f + k)) (by rw [iP]; omega) (by rw [iP]; exact h3) (by omega) ⟨fun i c a1 a2 a3 a4 => by
   rw [g, g, if_neg (by unfold chd at a3; omega), if_neg (by unfold chd at a3; omega), if_neg (by unfold chd at a3; omega), if_neg (by omega)]
   exact h i c (by omega) a3 (by omega), fun p c a1 a2 => by unfold chd at a2; omega⟩
  have rs : Rel f (f + n) d (swp d f (f + k)) := Rel.swp (i := f) (j := f + k) (by omega) (by omega) (by omega) (by omega)
  have top : gN d1 (f + k) = gN d f := by rw [r.out _ (by omega), g, if_pos rfl]
  have tail : ∀ q, f + k < q → gN d1 q = gN d q := fun q hq => by rw [r.out _ (by omega), g, if_neg (by omega), if_neg (by omega)]
  have low : ∀ p, f ≤ p → p < f + k → ∃ p', f ≤ p' ∧ p' < f + (k + 1) ∧ gN d1 p = gN d p' := fun p p1 p2 => by
   obtain ⟨p', a1, a2, a3⟩ := r.src p p1 p2
   rw [g, if_neg (by omega)] at a3
   by_cases hp : p' = f
   ·rw [if_pos hp] at a3; exact ⟨f + k, by omega, by omega, a3⟩
   ·rw [if_neg hp] at a3; exact ⟨p', a1, by omega, a3⟩
  obtain ⟨d2, e2, r2, s2⟩ := aDp (f := f) (n := n) k d1 (by omega) (by rw [r.len, iP]; exact h2) (by rw [r.len, iP]; exact h3) p (fun p q p1 p2 p3 => by
   by_cases hq : q = f + k
   ·have : p = f + k := by omega
    rw [hq, this]; exact Int.le_refl _
   ·rw [tail q (by omega)]
    by_cases hp : p = f + k
    ·rw [hp, top]; exact hb f q (Nat.le_refl _) (by omega) (by omega) p3
    ·rw [tail p (by omega)]; exact hs p q (by omega) p2 p3) (fun p q p1 p2 p3 p4 => by
   obtain ⟨p', a1, a2, a3⟩ := low p p1 p2
   rw [a3]
   by_cases hq : q = f + k
   ·rw [hq, top]
    have := hroot (p' - f) (by omega)
    rw [show f + (p' - f) = p' by omega] at this
    exact this
   ·rw [tail q (by omega)]; exact hb p' q a1 a2 (by omega) p4)
  refine ⟨d2, ?_, (rs.trans (r.mono (Nat.le_refl _) (by omega))).trans r2, s2⟩
  rw [dO (s' := (d1, (k : Int) - 1)) ?_, e2]
  show eS _ _ _ _ = _
  have g1 : (((k + 1 : Nat) : Int) - 1) = (k : Int) := by omega
  have g2 : decide ((0 : Int) ≤ (k : Int)) = true := by simp
  have g3 : IntKind.i64.wrap ((f : Int) + (k : Int)) = ((f + k : Nat) : Int) := wrN (by omega) (by omega)
  simp only [eS, g1, g2, g3, cond_true, Int.toNat_natCast]
  rw [aQ (asN (by omega)), aQ (asN (by omega)), aQ (asN (by omega)), aQ (asN (by omega))]
  have e' : fU (List.set (List.set d f (List.getD d (f + k) default)) (f + k) (List.getD d f default)) 0 (k : Int) (f : Int) = some d1 := e
  rw [e']
  simp only [Option.bind_some]
  rw [fV (by omega) (by omega)]

theorem aDh {lo hi : Nat} {d : List Int} (h0 : lo < hi) (h1 : hi ≤ d.length) (h3 : d.length < 2305843009213693951) : ∃ d', lR d (lo : Int) (hi : Int) = some d' ∧ Rel lo hi d d' ∧ uK lo hi d' := by
 unfold lR
 rw [aQ (by decide)]
 have e1 : IntKind.i64.wrap ((hi : Int) - (lo : Int)) = ((hi - lo : Nat) : Int) := wrN (by omega) (by omega)
 have e2 : IntKind.i64.wrap (((hi - lo : Nat) : Int) - 1) = ((hi - lo - 1 : Nat) : Int) := wrN (by omega) (by omega)
 have e3 : IntKind.i64.wrap (Int.tdiv ((hi - lo - 1 : Nat) : Int) 2) = (((hi - lo - 1) / 2 + 1 : Nat) : Int) - 1 := by
  have : Int.tdiv ((hi - lo - 1 : Nat) : Int) 2 = (((hi - lo - 1) / 2 : Nat) : Int) := by rw [Int.tdiv_eq_ediv_of_nonneg (by omega)]; omega
  rw [this, wrN (n := (hi - lo - 1) / 2) rfl (by omega)]; omega
 rw [e1, e2, e3]
 unfold nW
 obtain ⟨d1, a1, r1, p1⟩ := aAo (f := lo) (hi := hi - lo) ((hi - lo - 1) / 2 + 1) d (by omega) (by omega) h3 (fun i c b1 b2 b3 => by unfold chd at b2; omega)
 rw [a1]
 simp only [Option.bind_some, kP, nX]
 obtain ⟨d2, a2, r2, s2⟩ := aDp (f := lo) (n := hi - lo) (hi - lo) d1 (Nat.le_refl _) (by rw [r1.len]; omega) (by rw [r1.len]; exact h3) p1 (fun p q b1 b2 b3 => by omega) (fun p q b1 b2 b3 b4 => by omega)
 have e4 : IntKind.i64.wrap (((hi - lo : Nat) : Int) - 1) = ((hi - lo : Nat) : Int) - 1 := fV (by omega) (by omega)
 rw [e4, a2]
 have : lo + (hi - lo) = hi := by omega
 rw [this] at r1 r2 s2
 exact ⟨d2, rfl, r1.trans r2, s2⟩

end Go.Abs
namespace Go.Abs
open Go
def OF : ByteArray := ⟨#[0, 1, 2, 2, 3, 3, 3, 3, 4, 4, 4, 4, 4, 4, 4, 4, 5, 5, 5, 5, 5, 5, 5, 5, 5, 5, 5, 5, 5, 5, 5, 5, 6, 6, 6, 6, 6, 6, 6, 6, 6, 6, 6, 6, 6, 6, 6, 6, 6, 6, 6, 6, 6, 6, 6, 6, 6, 6, 6, 6, 6, 6, 6, 6, 7, 7, 7, 7, 7, 7, 7, 7, 7, 7, 7, 7, 7, 7, 7, 7, 7, 7, 7, 7, 7, 7, 7, 7, 7, 7, 7, 7, 7, 7, 7, 7, 7, 7, 7, 7, 7, 7, 7, 7, 7, 7, 7, 7, 7, 7, 7, 7, 7, 7, 7, 7, 7, 7, 7, 7, 7, 7, 7, 7, 7, 7, 7, 7, 8, 8, 8, 8, 8, 8, 8, 8, 8, 8, 8, 8, 8, 8, 8, 8, 8, 8, 8, 8, 8, 8, 8, 8, 8, 8, 8, 8, 8, 8, 8, 8, 8, 8, 8, 8, 8, 8, 8, 8, 8, 8, 8, 8, 8, 8, 8, 8, 8, 8, 8, 8, 8, 8, 8, 8, 8, 8, 8, 8, 8, 8, 8, 8, 8, 8, 8, 8, 8, 8, 8, 8, 8, 8, 8, 8, 8, 8, 8, 8, 8, 8, 8, 8, 8, 8, 8, 8, 8, 8, 8, 8, 8, 8, 8, 8, 8, 8, 8, 8, 8, 8, 8, 8, 8, 8, 8, 8, 8, 8, 8, 8, 8, 8, 8, 8, 8, 8, 8, 8, 8, 8, 8, 8, 8, 8, 8, 8]⟩

theorem aCB : ∀ i : Fin 256, i.val ≠ 0 → ∃ k : Fin 8, bt OF (i.val : Int) = (k.val : Int) + 1 ∧ 2 ^ k.val ≤ i.val := by decide +kernel

theorem SY : ByteArray.size OF = 256 := by decide +kernel

theorem aEv {x : Int} (h : 0 ≤ x) (h2 : x ≤ 255) : IntKind.u8.wrap x = x := by
 simp only [IntKind.wrap, IntKind.bits, IntKind.signed]
 simp
 omega

theorem KT {x : Int} (h : 0 ≤ x) (h2 : x ≤ 9223372036854775807) : IntKind.u64.wrap x = x := by
 simp only [IntKind.wrap, IntKind.bits, IntKind.signed]
 simp
 omega

theorem aDi {x n : Int} (h1 : 1 ≤ x) (h2 : x ≤ 255) (hn : 0 ≤ n ∧ n ≤ 100) : ∃ k : Nat, qR x n = some (n + k + 1) ∧ k ≤ 7 ∧ (2 : Int) ^ k ≤ x := by
 obtain ⟨k, e, hk⟩ := aCB ⟨x.toNat, by omega⟩ (by simp; omega)
 refine ⟨k.val, ?_, by omega, ?_⟩
 ·show (bA (0 ≤ (IntKind.u8.wrap x) ∧ (IntKind.u8.wrap x) < ((ByteArray.size OF : Nat) : Int)) <| some (IntKind.i64.wrap (n + (IntKind.i64.wrap (bt OF (IntKind.u8.wrap x)))))) = _
  rw [aEv (by omega) h2, aQ (by rw [SY]; omega)]
  simp only at e
  rw [Int.toNat_of_nonneg (by omega)] at e
  rw [e, fV (n := (k.val : Int) + 1) (by omega) (by omega), fV (by omega) (by omega)]
  congr 1
  omega
 ·simp only at hk
  have : ((2 ^ k.val : Nat) : Int) ≤ ((x.toNat : Nat) : Int) := by exact_mod_cast hk
  rw [Int.toNat_of_nonneg (by omega)] at this
  simpa using this

theorem ON {x m : Int} (hm : 0 < m) : Int.fdiv x m = x / m := Int.fdiv_eq_ediv_of_nonneg _ (by omega)

theorem aCk {x n : Int} (h1 : 1 ≤ x) (h2 : x ≤ 65535) (hn : 0 ≤ n ∧ n ≤ 90) : ∃ k : Nat, oG x n = some (n + k + 1) ∧ k ≤ 15 ∧ (2 : Int) ^ k ≤ x := by
 unfold oG
 by_cases h : 256 ≤ x
 ·have hd : Int.fdiv x (2 ^ (min (Int.toNat (8 : Int)) 64)) = x / 256 := by rw [show (2 ^ (min (Int.toNat (8 : Int)) 64) : Int) = 256 from by decide]; exact ON (by omega)
  obtain ⟨k, e, h3, h4⟩ := aDi (x := x / 256) (n := n + 8) (by omega) (by omega) (by omega)
  refine ⟨k + 8, ?_, by omega, ?_⟩
  ·simp only [h, decide_true, cond_true]
   rw [aQ (by decide), hd, fV (n := n + 8) (by omega) (by omega), e]
   congr 1; omega
  ·rw [Int.pow_add]; have : (2 : Int) ^ 8 = 256 := by decide
   rw [this]; omega
 ·obtain ⟨k, e, h3, h4⟩ := aDi (x := x) (n := n) h1 (by omega) (by omega)
  exact ⟨k, by simp only [h, decide_false, cond_false, e], by omega, h4⟩

theorem aDb {x n : Int} (h1 : 1 ≤ x) (h2 : x ≤ 4294967295) (hn : 0 ≤ n ∧ n ≤ 70) : ∃ k : Nat, oF x n = some (n + k + 1) ∧ k ≤ 31 ∧ (2 : Int) ^ k ≤ x := by
 unfold oF
 by_cases h : 65536 ≤ x
 ·have hd : Int.fdiv x (2 ^ (min (Int.toNat (16 : Int)) 64)) = x / 65536 := by rw [show (2 ^ (min (Int.toNat (16 : Int)) 64) : Int) = 65536 from by decide]; exact ON (by omega)
  obtain ⟨k, e, h3, h4⟩ := aCk (x := x / 65536) (n := n + 16) (by omega) (by omega) (by omega)
  refine ⟨k + 16, ?_, by omega, ?_⟩
  ·simp only [h, decide_true, cond_true]
   rw [aQ (by decide), hd, fV (n := n + 16) (by omega) (by omega), e]
   congr 1; omega
  ·rw [Int.pow_add]; have : (2 : Int) ^ 16 = 65536 := by decide
   rw [this]; omega
 ·obtain ⟨k, e, h3, h4⟩ := aCk (x := x) (n := n) h1 (by omega) (by omega)
  exact ⟨k, by simp only [h, decide_false, cond_false, e], by omega, h4⟩

theorem aC6 {x : Int} (h1 : 1 ≤ x) (h2 : x ≤ 9223372036854775807) : ∃ k : Nat, nJ x = some ((k : Int) + 1) ∧ k ≤ 63 ∧ (2 : Int) ^ k ≤ x := by
 unfold nJ tK
 by_cases h : 4294967296 ≤ x
 ·have hd : Int.fdiv x (2 ^ (min (Int.toNat (32 : Int)) 64)) = x / 4294967296 := by rw [show (2 ^ (min (Int.toNat (32 : Int)) 64) : Int) = 4294967296 from by decide]; exact ON (by omega)
  obtain ⟨k, e, h3, h4⟩ := aDb (x := x / 4294967296) (n := 32) (by omega) (by omega) (by omega)
  refine ⟨k + 32, ?_, by omega, ?_⟩
  ·simp only [h, decide_true, cond_true]
   rw [aQ (by decide), hd, e]
   simp only [Option.bind_some]
   congr 1; omega
  ·rw [Int.pow_add]; have : (2 : Int) ^ 32 = 4294967296 := by decide
   rw [this]; omega
 ·obtain ⟨k, e, h3, h4⟩ := aDb (x := x) (n := 0) h1 (by omega) (by omega)
  refine ⟨k, ?_, by omega, h4⟩
  simp only [h, decide_false, cond_false, e, Option.bind_some]
  congr 1; omega

theorem aDj : bt OF 0 = 0 := by decide +kernel

theorem aD0 : nJ 0 = some 0 := by
 have h3 : qR 0 0 = some 0 := by
  show (bA (0 ≤ (IntKind.u8.wrap 0) ∧ (IntKind.u8.wrap 0) < ((ByteArray.size OF : Nat) : Int)) <| some (IntKind.i64.wrap (0 + (IntKind.i64.wrap (bt OF (IntKind.u8.wrap 0)))))) = _
  rw [aEv (by omega) (by omega), aQ (by rw [SY]; omega), aDj, fV (n := 0) (by omega) (by omega), fV (by omega) (by omega)]
  rfl
 have h2 : oG 0 0 = some 0 := h3
 have h1 : oF 0 0 = some 0 := h2
 unfold nJ tK
 have : decide ((4294967296 : Int) ≤ 0) = false := by decide
 rw [this, cond_false, h1]
 rfl

theorem aDM {n : Nat} (h1 : 1 ≤ n) (h2 : n < 2305843009213693951) : ∃ m : Int, pM (n : Int) = some m ∧ 1 ≤ m ∧ m ≤ 2 * n := by
 unfold pM
 rw [KT (by omega) (by omega)]
 obtain ⟨k, e, h3, h4⟩ := aC6 (x := (n : Int)) (by omega) (by omega)
 have hk : (2 : Int) ^ (k + 1) = 2 * 2 ^ k := by rw [Int.pow_succ]; omega
 have hp : (1 : Int) ≤ 2 ^ k := by
  have : (0 : Int) < 2 ^ k := Int.pow_pos (by decide)
  omega
 rw [e]
 simp only [Option.bind_some]
 rw [aQ (by omega), show min (Int.toNat ((k : Int) + 1)) 64 = k + 1 by omega, Int.one_mul, hk, KT (by omega) (by omega)]
 exact ⟨_, rfl, by omega, by omega⟩

theorem aFQ (x : Int) {m : Int} (h0 : 0 ≤ m) (hm : m ≤ 9223372036854775807) : 0 ≤ bR .and .u64 x m ∧ bR .and .u64 x m ≤ m := by
 have h1 : (BitVec.ofInt IntKind.u64.bits x &&& BitVec.ofInt IntKind.u64.bits m).toNat ≤ m.toNat := by
  rw [BitVec.toNat_and]
  refine Nat.le_trans Nat.and_le_right ?_
  rw [BitVec.toNat_ofInt]
  have : IntKind.u64.bits = 64 := rfl
  rw [this]
  omega
 have h2 : bR .and .u64 x m = ((BitVec.ofInt IntKind.u64.bits x &&& BitVec.ofInt IntKind.u64.bits m).toNat : Int) := KT (by omega) (by omega)
 rw [h2]
 omega

theorem aBM (r : Int) : ∃ x, qI r = some x := by
 unfold qI
 rw [aQ (by decide), aQ (by decide), aQ (by decide)]
 exact ⟨_, rfl⟩

theorem aDs {lo i o : Nat} {d : List Int} (l r m : Int) (hi : i < d.length) (ho : lo + o < d.length) (hl : d.length < 2305843009213693951) :
  fM d (lo : Nat) l r m (i : Nat) (o : Nat) = some (.inl (swp d i (lo + o), r, ((i + 1 : Nat) : Int))) := by
 unfold fM
 rw [wrN (x := (lo : Int) + (o : Int)) (n := lo + o) (by omega) (by omega), wrN (n := i + 1) (by omega) (by omega)]
 simp only [Int.toNat_natCast]
 rw [aQ (asN (by omega)), aQ (asN (by omega)), aQ (asN (by omega)), aQ (asN (by omega))]
 rfl

theorem aFG {lo n : Nat} {m : Int} (hm : 1 ≤ m ∧ m ≤ 2 * n) (h8 : 8 ≤ n) : ∀ (q i : Nat) (r : Int) (d : List Int), lo + n / 4 * 2 + 2 - i = q → lo ≤ i → i ≤ lo + n / 4 * 2 + 2 → lo + n ≤ d.length → d.length < 2305843009213693951 →
  ∃ d', lp (fun s : List Int × Int × Int => dF (lo : Nat) (n : Nat) m s.1 s.2.1 s.2.2) (d, r, (i : Int)) = some d' ∧ Rel lo (lo + n) d d' := by
 have t4 : IntKind.i64.wrap (Int.tdiv (n : Int) 4) = ((n / 4 : Nat) : Int) ∨ 2305843009213693951 ≤ n := by
  by_cases h : n < 2305843009213693951
  ·left
   have : Int.tdiv (n : Int) 4 = ((n / 4 : Nat) : Int) := by rw [Int.tdiv_eq_ediv_of_nonneg (by omega)]; omega
   rw [this]; exact wrN rfl (by omega)
  ·right; omega
 intro q
 induction q with
 | zero =>
  intro i r d h1 h2 h3 h4 h5
  have t4 := t4.resolve_right (by omega)
  refine ⟨d, cE ?_, Rel.refl ..⟩
  show dF _ _ _ _ _ _ = _
  unfold dF
  rw [aQ (by decide), t4, wrN (x := ((n / 4 : Nat) : Int) * 2) (n := n / 4 * 2) (by omega) (by omega), wrN (x := (lo : Int) + ((n / 4 * 2 : Nat) : Int)) (n := lo + n / 4 * 2) (by omega) (by omega), wrN (x := ((lo + n / 4 * 2 : Nat) : Int) + 1) (n := lo + n / 4 * 2 + 1) (by omega) (by omega)]
  have : decide (((i : Nat) : Int) ≤ ((lo + n / 4 * 2 + 1 : Nat) : Int)) = false := by simp; omega
  rw [this, cond_false]
 | succ q ih =>
  intro i r d h1 h2 h3 h4 h5
  have t4 := t4.resolve_right (by omega)
  obtain ⟨x, hx⟩ := aBM r
  obtain ⟨a1, a2⟩ := aFQ x.1 (m := m - 1) (by omega) (by omega)
  have hd : decide (((i : Nat) : Int) ≤ ((lo + n / 4 * 2 + 1 : Nat) : Int)) = true := by simp; omega
  have step : ∃ o, o < n ∧ dF (lo : Nat) (n : Nat) m d r (i : Nat) = some (.inl (swp d i (lo + o), x.2, ((i + 1 : Nat) : Int))) := by
   unfold dF
   rw [aQ (by decide), t4, wrN (x := ((n / 4 : Nat) : Int) * 2) (n := n / 4 * 2) (by omega) (by omega), wrN (x := (lo : Int) + ((n / 4 * 2 : Nat) : Int)) (n := lo + n / 4 * 2) (by omega) (by omega), wrN (x := ((lo + n / 4 * 2 : Nat) : Int) + 1) (n := lo + n / 4 * 2 + 1) (by omega) (by omega), hd, cond_true, hx]
   simp only [Option.bind_some]
   rw [KT (x := m - 1) (by omega) (by omega)]
   have e1 : IntKind.i64.wrap (bR .and .u64 x.1 (m - 1)) = (((bR .and .u64 x.1 (m - 1)).toNat : Nat) : Int) := wrN (by omega) (by omega)
   rw [e1]
   by_cases h : (n : Int) ≤ (((bR .and .u64 x.1 (m - 1)).toNat : Nat) : Int)
   ·refine ⟨(bR .and .u64 x.1 (m - 1)).toNat - n, by omega, ?_⟩
    simp only [h, decide_true, cond_true]
    rw [wrN (x := (((bR .and .u64 x.1 (m - 1)).toNat : Nat) : Int) - (n : Int)) (n := (bR .and .u64 x.1 (m - 1)).toNat - n) (by omega) (by omega)]
    exact aDs _ _ _ (by omega) (by omega) h5
   ·refine ⟨(bR .and .u64 x.1 (m - 1)).toNat, by omega, ?_⟩
    simp only [h, decide_false, cond_false]
    exact aDs _ _ _ (by omega) (by omega) h5
  obtain ⟨o, ho, hs⟩ := step
  obtain ⟨d', e, rl⟩ := ih (i + 1) x.2 (swp d i (lo + o)) (by omega) (by omega) (by omega) (by rw [iP]; exact h4) (by rw [iP]; exact h5)
  exact ⟨d', (dO (show (fun s : List Int × Int × Int => dF (lo : Nat) (n : Nat) m s.1 s.2.1 s.2.2) (d, r, (i : Int)) = _ from hs)).trans e, (Rel.swp (i := i) (j := lo + o) (by omega) (by omega) (by omega) (by omega)).trans rl⟩

theorem aB8 {lo hi : Nat} {d : List Int} (h8 : 8 ≤ hi - lo) (h1 : hi ≤ d.length) (h2 : d.length < 2305843009213693951) : ∃ d', iL d (lo : Int) (hi : Int) = some d' ∧ Rel lo hi d d' := by
 unfold iL
 have e1 : IntKind.i64.wrap ((hi : Int) - (lo : Int)) = ((hi - lo : Nat) : Int) := wrN (by omega) (by omega)
 have d1 : decide ((8 : Int) ≤ ((hi - lo : Nat) : Int)) = true := by simp; omega
 obtain ⟨m, em, m1, m2⟩ := aDM (n := hi - lo) (by omega) (by omega)
 have t4 : IntKind.i64.wrap (Int.tdiv ((hi - lo : Nat) : Int) 4) = (((hi - lo) / 4 : Nat) : Int) := by
  have : Int.tdiv ((hi - lo : Nat) : Int) 4 = (((hi - lo) / 4 : Nat) : Int) := by rw [Int.tdiv_eq_ediv_of_nonneg (by omega)]; omega
  rw [this]; exact wrN rfl (by omega)
 rw [e1, d1, cond_true, em]
 simp only [Option.bind_some]
 rw [aQ (by decide), t4, wrN (x := (((hi - lo) / 4 : Nat) : Int) * 2) (n := (hi - lo) / 4 * 2) (by omega) (by omega), wrN (x := (lo : Int) + (((hi - lo) / 4 * 2 : Nat) : Int)) (n := lo + (hi - lo) / 4 * 2) (by omega) (by omega), wrN (x := ((lo + (hi - lo) / 4 * 2 : Nat) : Int) - 1) (n := lo + (hi - lo) / 4 * 2 - 1) (by omega) (by omega)]
 unfold lK
 obtain ⟨d', e, r⟩ := aFG (lo := lo) (n := hi - lo) (m := m) ⟨m1, m2⟩ h8 (lo + (hi - lo) / 4 * 2 + 2 - (lo + (hi - lo) / 4 * 2 - 1)) (lo + (hi - lo) / 4 * 2 - 1) (IntKind.u64.wrap ((hi - lo : Nat) : Int)) d rfl (by omega) (by omega) (by omega) h2
 rw [e]
 have : lo + (hi - lo) = hi := by omega
 rw [this] at r
 exact ⟨d', rfl, r⟩

theorem aEi {a b : Nat} {d : List Int} (s : Int) (ha : a < d.length) (hb : b < d.length) : ∃ (p q : Nat) (s' : Int), gS d (a : Int) (b : Int) s = some (((p : Int), (q : Int)), s') ∧ ((p = a ∧ q = b) ∨ (p = b ∧ q = a)) := by
 unfold gS
 rw [aQ (asN hb), aQ (asN ha), wC]
 simp only [Option.bind_some]
 cases decide (d.getD (Int.toNat (b : Int)) default < d.getD (Int.toNat (a : Int)) default)
 ·exact ⟨a, b, _, rfl, .inl ⟨rfl, rfl⟩⟩
 ·exact ⟨b, a, _, rfl, .inr ⟨rfl, rfl⟩⟩

theorem med {a b c : Nat} {d : List Int} (s : Int) (ha : a < d.length) (hb : b < d.length) (hc : c < d.length) : ∃ (p : Nat) (s' : Int), jU d (a : Int) (b : Int) (c : Int) s = some ((p : Int), s') ∧ (p = a ∨ p = b ∨ p = c) := by
 unfold jU
 obtain ⟨p1, q1, s1, e1, h1⟩ := aEi s ha hb
 obtain ⟨p2, q2, s2, e2, h2⟩ := aEi (a := q1) (b := c) (d := d) s1 (by omega) hc
 obtain ⟨p3, q3, s3, e3, h3⟩ := aEi (a := p1) (b := p2) (d := d) s2 (by omega) (by omega)
 rw [e1]; simp only [Option.bind_some]
 rw [e2]; simp only [Option.bind_some]
 rw [e3]
 exact ⟨q3, s3, rfl, by omega⟩

theorem aDW {a : Nat} {d : List Int} (s : Int) (h1 : 1 ≤ a) (ha : a + 1 < d.length) (hl : d.length < 2305843009213693951) : ∃ (p : Nat) (s' : Int), eK d (a : Int) s = some ((p : Int), s') ∧ a - 1 ≤ p ∧ p ≤ a + 1 := by
 unfold eK
 rw [wrN (x := (a : Int) - 1) (n := a - 1) (by omega) (by omega), wrN (x := (a : Int) + 1) (n := a + 1) (by omega) (by omega)]
 obtain ⟨p, s', e, h⟩ := med (a := a - 1) (b := a) (c := a + 1) (d := d) s (by omega) (by omega) (by omega)
 rw [e]
 exact ⟨p, s', rfl, by omega, by omega⟩

theorem aEz (d : List Int) (s : Int) (j : Int) : ∃ h, fW d s j = some (j, h) := by
 unfold fW
 cases decide (s = 0) <;> cases decide (s = 12) <;> exact ⟨_, rfl⟩

theorem aAV {lo hi : Nat} {d : List Int} (h8 : 12 < hi - lo) (h1 : hi ≤ d.length) (h2 : d.length < 2305843009213693951) : ∃ (p : Nat) (h : Int), jK d (lo : Int) (hi : Int) = some ((p : Int), h) ∧ lo ≤ p ∧ p < hi := by
 unfold jK
 have e1 : IntKind.i64.wrap ((hi : Int) - (lo : Int)) = ((hi - lo : Nat) : Int) := wrN (by omega) (by omega)
 have t4 : IntKind.i64.wrap (Int.tdiv ((hi - lo : Nat) : Int) 4) = (((hi - lo) / 4 : Nat) : Int) := by
  have : Int.tdiv ((hi - lo : Nat) : Int) 4 = (((hi - lo) / 4 : Nat) : Int) := by rw [Int.tdiv_eq_ediv_of_nonneg (by omega)]; omega
  rw [this]; exact wrN rfl (by omega)
 have d1 : decide ((8 : Int) ≤ ((hi - lo : Nat) : Int)) = true := by simp; omega
 have q1 : IntKind.i64.wrap ((lo : Int) + IntKind.i64.wrap ((((hi - lo) / 4 : Nat) : Int) * 1)) = ((lo + (hi - lo) / 4 : Nat) : Int) := by
  rw [wrN (x := (((hi - lo) / 4 : Nat) : Int) * 1) (n := (hi - lo) / 4) (by omega) (by omega)]; exact wrN (by omega) (by omega)
 have q2 : IntKind.i64.wrap ((lo : Int) + IntKind.i64.wrap ((((hi - lo) / 4 : Nat) : Int) * 2)) = ((lo + (hi - lo) / 4 * 2 : Nat) : Int) := by
  rw [wrN (x := (((hi - lo) / 4 : Nat) : Int) * 2) (n := (hi - lo) / 4 * 2) (by omega) (by omega)]; exact wrN (by omega) (by omega)
 have q3 : IntKind.i64.wrap ((lo : Int) + IntKind.i64.wrap ((((hi - lo) / 4 : Nat) : Int) * 3)) = ((lo + (hi - lo) / 4 * 3 : Nat) : Int) := by
  rw [wrN (x := (((hi - lo) / 4 : Nat) : Int) * 3) (n := (hi - lo) / 4 * 3) (by omega) (by omega)]; exact wrN (by omega) (by omega)
 rw [aQ (by decide), aQ (by decide), aQ (by decide)]
 simp only [e1, t4, d1, q1, q2, q3, cond_true]
 by_cases h50 : (50 : Int) ≤ ((hi - lo : Nat) : Int)
 ·simp only [h50, decide_true, cond_true]
  obtain ⟨p1, s1, f1, g1, g2⟩ := aDW (a := lo + (hi - lo) / 4) (d := d) 0 (by omega) (by omega) h2
  obtain ⟨p2, s2, f2, g3, g4⟩ := aDW (a := lo + (hi - lo) / 4 * 2) (d := d) s1 (by omega) (by omega) h2
  obtain ⟨p3, s3, f3, g5, g6⟩ := aDW (a := lo + (hi - lo) / 4 * 3) (d := d) s2 (by omega) (by omega) h2
  obtain ⟨p4, s4, f4, g7⟩ := med (a := p1) (b := p2) (c := p3) (d := d) s3 (by omega) (by omega) (by omega)
  obtain ⟨h, f5⟩ := aEz d s4 p4
  rw [f1]; simp only [Option.bind_some]
  rw [f2]; simp only [Option.bind_some]
  rw [f3]; simp only [Option.bind_some, fX]
  rw [f4]; simp only [Option.bind_some]
  exact ⟨p4, h, f5, by omega, by omega⟩
 ·simp only [h50, decide_false, cond_false, fX]
  obtain ⟨p4, s4, f4, g7⟩ := med (a := lo + (hi - lo) / 4) (b := lo + (hi - lo) / 4 * 2) (c := lo + (hi - lo) / 4 * 3) (d := d) 0 (by omega) (by omega) (by omega)
  obtain ⟨h, f5⟩ := aEz d s4 p4
  rw [f4]; simp only [Option.bind_some]
  exact ⟨p4, h, f5, by omega, by omega⟩

end Go.Abs
namespace Go.Abs
open Go
theorem SD {body : List Int × Int → Option ((List Int × Int) ⊕ (List Int × Int))} {d : List Int} {p : Nat → Prop} [DecidablePred p] {j : Nat}
  (hs : ∀ i, i ≤ j + 1 → body (d, (i : Int)) = if i ≤ j ∧ p i then some (.inl (d, ((i + 1 : Nat) : Int))) else some (.inr (d, (i : Int)))) :
  ∀ (n i : Nat), j + 1 - i = n → i ≤ j + 1 → ∃ i' : Nat, lp body (d, (i : Int)) = some (d, (i' : Int)) ∧ i ≤ i' ∧ i' ≤ j + 1 ∧ (∀ k, i ≤ k → k < i' → p k) ∧ (i' ≤ j → ¬ p i') := by
 intro n
 induction n with
 | zero =>
  intro i h1 h2
  have := hs i h2
  rw [if_neg (by omega)] at this
  exact ⟨i, cE this, Nat.le_refl _, h2, fun k a b => by omega, fun h => by omega⟩
 | succ n ih =>
  intro i h1 h2
  have h := hs i h2
  by_cases hp : p i
  ·rw [if_pos ⟨by omega, hp⟩] at h
   obtain ⟨i', e, a1, a2, a3, a4⟩ := ih (i + 1) (by omega) (by omega)
   refine ⟨i', (dO h).trans e, by omega, a2, fun k b1 b2 => ?_, a4⟩
   by_cases hk : k = i
   ·rw [hk]; exact hp
   ·exact a3 k (by omega) b2
  ·rw [if_neg fun hh => hp hh.2] at h
   exact ⟨i, cE h, Nat.le_refl _, h2, fun k a b => by omega, fun _ => hp⟩

theorem KW {body : List Int × Int → Option ((List Int × Int) ⊕ (List Int × Int))} {d : List Int} {p : Nat → Prop} [DecidablePred p] {i m : Nat} (hi : 1 ≤ i)
  (hs : ∀ j, j ≤ m → body (d, (j : Int)) = if i ≤ j ∧ p j then some (.inl (d, ((j - 1 : Nat) : Int))) else some (.inr (d, (j : Int)))) :
  ∀ (j : Nat), j ≤ m → i ≤ j + 1 → ∃ j' : Nat, lp body (d, (j : Int)) = some (d, (j' : Int)) ∧ i ≤ j' + 1 ∧ j' ≤ j ∧ (∀ k, j' < k → k ≤ j → p k) ∧ (i ≤ j' → ¬ p j') := by
 intro j
 induction j with
 | zero =>
  intro h1 h2
  have := hs 0 h1
  rw [if_neg (by omega)] at this
  exact ⟨0, cE this, by omega, Nat.le_refl _, fun k a b => by omega, fun h => by omega⟩
 | succ j ih =>
  intro h1 h2
  have h := hs (j + 1) h1
  by_cases hp : i ≤ j + 1 ∧ p (j + 1)
  ·rw [if_pos hp] at h
   obtain ⟨j', e, a1, a2, a3, a4⟩ := ih (by omega) (by omega)
   refine ⟨j', (dO h).trans e, a1, by omega, fun k b1 b2 => ?_, a4⟩
   by_cases hk : k = j + 1
   ·rw [hk]; exact hp.2
   ·exact a3 k b1 (by omega)
  ·rw [if_neg hp] at h
   exact ⟨j + 1, cE h, by omega, Nat.le_refl _, fun k a b => by omega, fun h1 h2 => hp ⟨h1, h2⟩⟩

theorem aAt {α : Type} {i j u v : Nat} {d : List Int} {n : Bool} {x y : Option α} (hu : i ≤ j → u < d.length) (hv : i ≤ j → v < d.length) :
  (bA ((decide ((i : Int) ≤ (j : Int))) = true → 0 ≤ (u : Int) ∧ (u : Int) < ((List.length d : Nat) : Int)) <|
  bA ((decide ((i : Int) ≤ (j : Int))) = true → 0 ≤ (v : Int) ∧ (v : Int) < ((List.length d : Nat) : Int)) <|
  (eD (decide ((i : Int) ≤ (j : Int))) (dQ (List.getD d (Int.toNat (u : Int)) default) (List.getD d (Int.toNat (v : Int)) default))).bind fun z =>
  cond ((decide ((i : Int) ≤ (j : Int))) && (Bool.xor n z)) x y) = if i ≤ j ∧ (Bool.xor n (decide (gN d u < gN d v))) = true then x else y := by
 by_cases h : i ≤ j
 ·have hd : decide ((i : Int) ≤ (j : Int)) = true := by simp; omega
  rw [hd]
  rw [aQ fun _ => asN (hu h), aQ fun _ => asN (hv h)]
  simp only [eD, cond_true, wC, Option.bind_some, Bool.true_and, Int.toNat_natCast, h, true_and, gN]
  cases Bool.xor n (decide (d.getD u default < d.getD v default)) <;> simp
 ·have hd : decide ((i : Int) ≤ (j : Int)) = false := by simp; omega
  rw [hd, aQ (fun h => by cases h), aQ (fun h => by cases h)]
  simp [eD, h]

theorem PJ {α : Type} {i j u v : Nat} {d : List Int} {x y : Option α} (hu : i ≤ j → u < d.length) (hv : i ≤ j → v < d.length) :
  (bA ((decide ((i : Int) ≤ (j : Int))) = true → 0 ≤ (u : Int) ∧ (u : Int) < ((List.length d : Nat) : Int)) <|
  bA ((decide ((i : Int) ≤ (j : Int))) = true → 0 ≤ (v : Int) ∧ (v : Int) < ((List.length d : Nat) : Int)) <|
  (eD (decide ((i : Int) ≤ (j : Int))) (dQ (List.getD d (Int.toNat (u : Int)) default) (List.getD d (Int.toNat (v : Int)) default))).bind fun z =>
  cond ((decide ((i : Int) ≤ (j : Int))) && z) x y) = if i ≤ j ∧ gN d u < gN d v then x else y := by
 have := aAt (n := false) (x := x) (y := y) hu hv
 simp only [Bool.false_xor] at this
 exact this.trans (by simp)

theorem OC {α : Type} {i j u v : Nat} {d : List Int} {x y : Option α} (hu : i ≤ j → u < d.length) (hv : i ≤ j → v < d.length) :
  (bA ((decide ((i : Int) ≤ (j : Int))) = true → 0 ≤ (u : Int) ∧ (u : Int) < ((List.length d : Nat) : Int)) <|
  bA ((decide ((i : Int) ≤ (j : Int))) = true → 0 ≤ (v : Int) ∧ (v : Int) < ((List.length d : Nat) : Int)) <|
  (eD (decide ((i : Int) ≤ (j : Int))) (dQ (List.getD d (Int.toNat (u : Int)) default) (List.getD d (Int.toNat (v : Int)) default))).bind fun z =>
  cond ((decide ((i : Int) ≤ (j : Int))) && (!z)) x y) = if i ≤ j ∧ ¬ gN d u < gN d v then x else y := by
 have := aAt (n := true) (x := x) (y := y) hu hv
 simp only [Bool.true_xor] at this
 exact this.trans (by simp)

theorem aE9 {a j : Nat} {d : List Int} (ha : a < d.length) (hj : j < d.length) (hl : d.length < 2305843009213693951) : ∀ i, i ≤ j + 1 → eY (a : Nat) (j : Nat) d (i : Nat) = if i ≤ j ∧ gN d i < gN d a then some (.inl (d, ((i + 1 : Nat) : Int))) else some (.inr (d, (i : Int))) := by
 intro i hi
 unfold eY
 rw [wrN (x := (i : Int) + 1) (n := i + 1) (by omega) (by omega)]
 exact PJ (u := i) (v := a) (by omega) (by omega)

theorem aDI {a j : Nat} {d : List Int} (ha : a < d.length) (hj : j < d.length) (hl : d.length < 2305843009213693951) : ∀ i, i ≤ j + 1 → fL (a : Nat) (j : Nat) d (i : Nat) = if i ≤ j ∧ gN d i < gN d a then some (.inl (d, ((i + 1 : Nat) : Int))) else some (.inr (d, (i : Int))) := by
 intro i hi
 unfold fL
 rw [wrN (x := (i : Int) + 1) (n := i + 1) (by omega) (by omega)]
 exact PJ (u := i) (v := a) (by omega) (by omega)

theorem aDo {a i m : Nat} {d : List Int} (hi : 1 ≤ i) (ha : a < d.length) (hm : m < d.length) (hl : d.length < 2305843009213693951) : ∀ j, j ≤ m → fG (a : Nat) (i : Nat) d (j : Nat) = if i ≤ j ∧ ¬ gN d j < gN d a then some (.inl (d, ((j - 1 : Nat) : Int))) else some (.inr (d, (j : Int))) := by
 intro j hj
 unfold fG
 refine (OC (i := i) (j := j) (d := d) (α := (List Int × Int) ⊕ (List Int × Int)) (u := j) (v := a) (x := some (.inl (d, IntKind.i64.wrap ((j : Int) - 1)))) (y := some (.inr (d, (j : Int)))) (by omega) (by omega)).trans ?_
 by_cases h : i ≤ j ∧ ¬ gN d j < gN d a
 ·rw [if_pos h, if_pos h, wrN (x := (j : Int) - 1) (n := j - 1) (by omega) (by omega)]
 ·rw [if_neg h, if_neg h]

theorem aAT {a i m : Nat} {d : List Int} (hi : 1 ≤ i) (ha : a < d.length) (hm : m < d.length) (hl : d.length < 2305843009213693951) : ∀ j, j ≤ m → fJ (a : Nat) (i : Nat) d (j : Nat) = if i ≤ j ∧ ¬ gN d j < gN d a then some (.inl (d, ((j - 1 : Nat) : Int))) else some (.inr (d, (j : Int))) := by
 intro j hj
 unfold fJ
 refine (OC (i := i) (j := j) (d := d) (α := (List Int × Int) ⊕ (List Int × Int)) (u := j) (v := a) (x := some (.inl (d, IntKind.i64.wrap ((j : Int) - 1)))) (y := some (.inr (d, (j : Int)))) (by omega) (by omega)).trans ?_
 by_cases h : i ≤ j ∧ ¬ gN d j < gN d a
 ·rw [if_pos h, if_pos h, wrN (x := (j : Int) - 1) (n := j - 1) (by omega) (by omega)]
 ·rw [if_neg h, if_neg h]

theorem aEn {a j : Nat} {d : List Int} (ha : a < d.length) (hj : j < d.length) (hl : d.length < 2305843009213693951) : ∀ i, i ≤ j + 1 → eF (a : Nat) (j : Nat) d (i : Nat) = if i ≤ j ∧ ¬ gN d a < gN d i then some (.inl (d, ((i + 1 : Nat) : Int))) else some (.inr (d, (i : Int))) := by
 intro i hi
 unfold eF
 rw [wrN (x := (i : Int) + 1) (n := i + 1) (by omega) (by omega)]
 exact OC (u := a) (v := i) (by omega) (by omega)

theorem aBp {a i m : Nat} {d : List Int} (hi : 1 ≤ i) (ha : a < d.length) (hm : m < d.length) (hl : d.length < 2305843009213693951) : ∀ j, j ≤ m → eC (a : Nat) (i : Nat) d (j : Nat) = if i ≤ j ∧ gN d a < gN d j then some (.inl (d, ((j - 1 : Nat) : Int))) else some (.inr (d, (j : Int))) := by
 intro j hj
 unfold eC
 refine (PJ (i := i) (j := j) (d := d) (α := (List Int × Int) ⊕ (List Int × Int)) (u := a) (v := j) (x := some (.inl (d, IntKind.i64.wrap ((j : Int) - 1)))) (y := some (.inr (d, (j : Int)))) (by omega) (by omega)).trans ?_
 by_cases h : i ≤ j ∧ gN d a < gN d j
 ·rw [if_pos h, if_pos h, wrN (x := (j : Int) - 1) (n := j - 1) (by omega) (by omega)]
 ·rw [if_neg h, if_neg h]

structure ER (a b i j : Nat) (d : List Int) : Prop where
 hi : a < i
 hij : i ≤ j + 1
 hj : j < b
 lo : ∀ k, a < k → k < i → gN d k < gN d a
 up : ∀ k, j < k → k < b → gN d a ≤ gN d k

theorem ER.swap {a b i j : Nat} {d : List Int} (h : ER a b i j d) (hb : b ≤ d.length) (hij : i < j) (h1 : gN d a ≤ gN d i) (h2 : gN d j < gN d a) : ER a b (i + 1) (j - 1) (swp d i j) := by
 have := h.hi; have := h.hj
 have g := xO (d := d) (i := i) (j := j) (by omega) (by omega)
 have ga : gN (swp d i j) a = gN d a := by rw [g, if_neg (by omega), if_neg (by omega)]
 refine ⟨by omega, by omega, by omega, fun k k1 k2 => ?_, fun k k1 k2 => ?_⟩
 ·rw [ga, g, if_neg (by omega)]
  by_cases hk : k = i
  ·rw [if_pos hk]; exact h2
  ·rw [if_neg hk]; exact h.lo k k1 (by omega)
 ·rw [ga, g]
  by_cases hk : k = j
  ·rw [if_pos hk]; exact h1
  ·rw [if_neg hk, if_neg (by omega)]; exact h.up k (by omega) k2

theorem PT {a b i j : Nat} {d : List Int} (h : ER a b i j d) (hb : b ≤ d.length) (hl : d.length < 2305843009213693951) : ∃ i' j' : Nat, ER a b i' j' d ∧ i ≤ i' ∧ j' ≤ j ∧ (j' < i' → j' + 1 = i') ∧ (i' ≤ j' → i' < j' ∧ gN d a ≤ gN d i' ∧ gN d j' < gN d a) ∧
  dU (a : Nat) d (i : Nat) (j : Nat) = fK d (a : Nat) (i' : Nat) (j' : Nat) ∧ gF d (a : Nat) (i : Nat) (j : Nat) = fF d (a : Nat) (i' : Nat) (j' : Nat) := by
 have h1 := h.hi; have h2 := h.hij; have h3 := h.hj
 obtain ⟨i', e1, a1, a2, a3, a4⟩ := SD (body := fun s => fL (a : Nat) (j : Nat) s.1 s.2) (d := d) (p := fun k => gN d k < gN d a) (j := j) (aDI (a := a) (j := j) (d := d) (by omega) (by omega) hl) (j + 1 - i) i rfl h2
 obtain ⟨i2, e1', b1, b2, b3, b4⟩ := SD (body := fun s => eY (a : Nat) (j : Nat) s.1 s.2) (d := d) (p := fun k => gN d k < gN d a) (j := j) (aE9 (a := a) (j := j) (d := d) (by omega) (by omega) hl) (j + 1 - i) i rfl h2
 have hii : i2 = i' := by
  rcases Nat.lt_trichotomy i2 i' with hh | hh | hh
  ·exact absurd (a3 i2 b1 hh) (b4 (by omega))
  ·exact hh
  ·exact absurd (b3 i' a1 hh) (a4 (by omega))
 subst hii
 obtain ⟨j', f1, c1, c2, c3, c4⟩ := KW (body := fun s => fJ (a : Nat) (i2 : Nat) s.1 s.2) (d := d) (p := fun k => ¬ gN d k < gN d a) (i := i2) (m := j) (by omega) (aAT (a := a) (i := i2) (m := j) (d := d) (by omega) (by omega) (by omega) hl) j (Nat.le_refl _) a2
 obtain ⟨j2, f1', g1, g2, g3, g4⟩ := KW (body := fun s => fG (a : Nat) (i2 : Nat) s.1 s.2) (d := d) (p := fun k => ¬ gN d k < gN d a) (i := i2) (m := j) (by omega) (aDo (a := a) (i := i2) (m := j) (d := d) (by omega) (by omega) (by omega) hl) j (Nat.le_refl _) a2
 have hjj : j2 = j' := by
  rcases Nat.lt_trichotomy j2 j' with hh | hh | hh
  ·exact absurd (g3 j' hh c2) (c4 (by omega))
  ·exact hh
  ·exact absurd (c3 j2 hh g2) (g4 (by omega))
 subst hjj
 have hend : i2 ≤ j2 → i2 < j2 ∧ gN d a ≤ gN d i2 ∧ gN d j2 < gN d a := fun hh => by
  have k1 : ¬ gN d i2 < gN d a := a4 (by omega)
  have k2 : gN d j2 < gN d a := Classical.byContradiction fun hn => c4 hh hn
  refine ⟨?_, by omega, k2⟩
  rcases Nat.lt_or_ge i2 j2 with h | h
  ·exact h
  ·have : i2 = j2 := by omega
   rw [this] at k1; exact absurd k2 k1
 refine ⟨i2, j2, ⟨by omega, by omega, by omega, fun k k1 k2 => ?_, fun k k1 k2 => ?_⟩, a1, c2, fun hh => by omega, hend, ?_, ?_⟩
 ·by_cases hk : k < i
  ·exact h.lo k k1 hk
  ·exact a3 k (by omega) k2
 ·by_cases hk : j < k
  ·exact h.up k hk k2
  ·have := c3 k k1 (by omega); omega
 ·unfold dU nR
  rw [show lp (fun s : List Int × Int => fL (a : Nat) (j : Nat) s.1 s.2) (d, (i : Int)) = some (d, (i2 : Int)) from e1]
  simp only [Option.bind_some]
  unfold jY nG
  rw [show lp (fun s : List Int × Int => fJ (a : Nat) (i2 : Nat) s.1 s.2) (d, (j : Int)) = some (d, (j2 : Int)) from f1]
  rfl
 ·unfold gF
  rw [show lp (fun s : List Int × Int => eY (a : Nat) (j : Nat) s.1 s.2) (d, (i : Int)) = some (d, (i2 : Int)) from e1']
  simp only [Option.bind_some]
  unfold kA nK
  rw [show lp (fun s : List Int × Int => fG (a : Nat) (i2 : Nat) s.1 s.2) (d, (j : Int)) = some (d, (j2 : Int)) from f1']
  rfl

theorem ER.rel {a b i j : Nat} {d : List Int} (h : ER a b i j d) (hb : b ≤ d.length) (hij : i ≤ j) : Rel (a + 1) b d (swp d i j) := by
 have := h.hi; have := h.hj
 exact Rel.swp (i := i) (j := j) (by omega) (by omega) (by omega) (by omega)

theorem aEN {a b : Nat} : ∀ (n i j : Nat) (d : List Int), j + 1 - i = n → b ≤ d.length → d.length < 2305843009213693951 → ER a b i j d →
  ∃ (d' : List Int) (j' : Nat), lp (fun s : List Int × Int × Int => dU (a : Nat) s.1 s.2.1 s.2.2) (d, (i : Int), (j : Int)) = some (d', (j' : Int)) ∧ Rel (a + 1) b d d' ∧ ER a b (j' + 1) j' d' := by
 intro n
 induction n using Nat.strongRecOn with
 | ind n ih =>
  intro i j d h1 h2 h3 h
  obtain ⟨i', j', p1, p2, p3, p4, p5, p6, _⟩ := PT h h2 h3
  have q1 := p1.hi; have q2 := p1.hj; have q3 := p1.hij
  by_cases hlt : j' < i'
  ·have hs : dU (a : Nat) d (i : Nat) (j : Nat) = some (.inr (d, (j' : Int))) := by
    rw [p6]
    unfold fK
    have : decide ((j' : Int) < (i' : Int)) = true := by simp; omega
    rw [this, cond_true]
   have := p4 hlt
   exact ⟨d, j', cE hs, Rel.refl .., by rw [this]; exact p1⟩
  ·obtain ⟨k1, k2, k3⟩ := p5 (by omega)
   have hs : dU (a : Nat) d (i : Nat) (j : Nat) = some (.inl (swp d i' j', ((i' + 1 : Nat) : Int), ((j' - 1 : Nat) : Int))) := by
    rw [p6]
    unfold fK
    have : decide ((j' : Int) < (i' : Int)) = false := by simp; omega
    rw [this, cond_false]
    simp only [Int.toNat_natCast]
    rw [aQ (asN (by omega)), aQ (asN (by omega)), aQ (asN (by omega)), aQ (asN (by omega)), wrN (x := (i' : Int) + 1) (n := i' + 1) (by omega) (by omega), wrN (x := (j' : Int) - 1) (n := j' - 1) (by omega) (by omega)]
    rfl
   obtain ⟨d', j2, e, r, p⟩ := ih (j' - 1 + 1 - (i' + 1)) (by omega) (i' + 1) (j' - 1) (swp d i' j') rfl (by rw [iP]; exact h2) (by rw [iP]; exact h3) (p1.swap h2 k1 k2 k3)
   exact ⟨d', j2, (dO hs).trans e, (p1.rel h2 (by omega)).trans r, p⟩

theorem XH {a b j : Nat} {d : List Int} (h : ER a b (j + 1) j d) (hb : b ≤ d.length) : Rel a b d (swp d j a) ∧ (∀ k, a ≤ k → k < j → gN (swp d j a) k ≤ gN (swp d j a) j) ∧ (∀ k, j < k → k < b → gN (swp d j a) j ≤ gN (swp d j a) k) := by
 have h1 := h.hi; have h3 := h.hj
 have g := xO (d := d) (i := j) (j := a) (by omega) (by omega)
 have gj : gN (swp d j a) j = gN d a := by
  rw [g]
  by_cases hh : j = a
  ·rw [if_pos hh, hh]
  ·rw [if_neg hh, if_pos rfl]
 refine ⟨Rel.swp (i := j) (j := a) (by omega) (by omega) (by omega) (by omega), fun k k1 k2 => ?_, fun k k1 k2 => ?_⟩
 ·rw [gj, g]
  by_cases hk : k = a
  ·rw [if_pos hk]
   have := h.lo j (by omega) (by omega); omega
  ·rw [if_neg hk, if_neg (by omega)]
   have := h.lo k (by omega) (by omega); omega
 ·rw [gj, g, if_neg (by omega), if_neg (by omega)]
  exact h.up k k1 k2

theorem YA {lo hi p : Nat} {d : List Int} (h0 : lo < hi) (hb : hi ≤ d.length) (hl : d.length < 2305843009213693951) (hp : lo ≤ p ∧ p < hi) :
  ∃ (m : Nat) (fl : Bool) (d' : List Int), iF d (lo : Int) (hi : Int) (p : Int) = some (((m : Int), fl), d') ∧ lo ≤ m ∧ m < hi ∧ Rel lo hi d d' ∧ (∀ k, lo ≤ k → k < m → gN d' k ≤ gN d' m) ∧ (∀ k, m < k → k < hi → gN d' m ≤ gN d' k) := by
 unfold iF
 rw [aQ (asN (by omega)), aQ (asN (by omega)), aQ (asN (by omega)), aQ (asN (by omega)), wrN (x := (lo : Int) + 1) (n := lo + 1) (by omega) (by omega), wrN (x := (hi : Int) - 1) (n := hi - 1) (by omega) (by omega)]
 simp only [Int.toNat_natCast]
 have r0 : Rel lo hi d (swp d lo p) := Rel.swp (i := lo) (j := p) (by omega) (by omega) (by omega) (by omega)
 have l0 : (swp d lo p).length = d.length := iP ..
 have inv : ER lo hi (lo + 1) (hi - 1) (swp d lo p) := ⟨by omega, by omega, by omega, fun k k1 k2 => by omega, fun k k1 k2 => by omega⟩
 obtain ⟨i', j', p1, p2, p3, p4, p5, _, p6⟩ := PT inv (by rw [l0]; exact hb) (by rw [l0]; exact hl)
 have e0 : gF (List.set (List.set d lo (List.getD d p default)) p (List.getD d lo default)) (lo : Int) ((lo + 1 : Nat) : Int) ((hi - 1 : Nat) : Int) = fF (swp d lo p) (lo : Nat) (i' : Nat) (j' : Nat) := p6
 rw [e0]
 have q1 := p1.hi; have q2 := p1.hj; have q3 := p1.hij
 generalize hg : swp d lo p = d1 at *
 unfold fF
 by_cases hlt : j' < i'
 ·have : decide ((j' : Int) < (i' : Int)) = true := by simp; omega
  rw [this, cond_true]
  simp only [Int.toNat_natCast]
  rw [aQ (asN (by omega)), aQ (asN (by omega)), aQ (asN (by omega)), aQ (asN (by omega))]
  have hp1 : ER lo hi (j' + 1) j' d1 := by rw [p4 hlt]; exact p1
  obtain ⟨r, a1, a2⟩ := XH hp1 (by omega)
  exact ⟨j', true, swp d1 j' lo, rfl, by omega, by omega, r0.trans r, a1, a2⟩
 ·obtain ⟨k1, k2, k3⟩ := p5 (by omega)
  have : decide ((j' : Int) < (i' : Int)) = false := by simp; omega
  rw [this, cond_false]
  simp only [Int.toNat_natCast]
  rw [aQ (asN (by omega)), aQ (asN (by omega)), aQ (asN (by omega)), aQ (asN (by omega)), wrN (x := (i' : Int) + 1) (n := i' + 1) (by omega) (by omega), wrN (x := (j' : Int) - 1) (n := j' - 1) (by omega) (by omega)]
  obtain ⟨d2, j2, e, r, pp⟩ := aEN (a := lo) (b := hi) (j' - 1 + 1 - (i' + 1)) (i' + 1) (j' - 1) (swp d1 i' j') rfl (by rw [iP]; omega) (by rw [iP]; omega) (p1.swap (by omega) k1 k2 k3)
  have w1 := pp.hi; have w2 := pp.hj
  have l2 : d2.length = d1.length := by rw [r.len, iP]
  unfold nM
  rw [show lp (fun s : List Int × Int × Int => dU (lo : Int) s.1 s.2.1 s.2.2) ((List.set (List.set d1 i' (List.getD d1 j' default)) j' (List.getD d1 i' default)), ((i' + 1 : Nat) : Int), ((j' - 1 : Nat) : Int)) = some (d2, (j2 : Int)) from e]
  simp only [Option.bind_some, jZ, Int.toNat_natCast]
  rw [aQ (asN (by omega)), aQ (asN (by omega)), aQ (asN (by omega)), aQ (asN (by omega))]
  obtain ⟨rr, a1, a2⟩ := XH pp (by omega)
  exact ⟨j2, false, swp d2 j2 lo, rfl, by omega, by omega, ((r0.trans ((p1.rel (by omega) (by omega)).mono (by omega) (Nat.le_refl _))).trans (r.mono (by omega) (Nat.le_refl _))).trans rr, a1, a2⟩

end Go.Abs
namespace Go.Abs
open Go
structure MC (a b i j : Nat) (d : List Int) : Prop where
 hi : a < i
 hij : i ≤ j + 1
 hj : j < b
 lo : ∀ k, a < k → k < i → gN d k ≤ gN d a
 up : ∀ k, j < k → k < b → gN d a < gN d k

theorem MC.swap {a b i j : Nat} {d : List Int} (h : MC a b i j d) (hb : b ≤ d.length) (hij : i < j) (h1 : gN d a < gN d i) (h2 : gN d j ≤ gN d a) : MC a b (i + 1) (j - 1) (swp d i j) := by
 have := h.hi; have := h.hj
 have g := xO (d := d) (i := i) (j := j) (by omega) (by omega)
 have ga : gN (swp d i j) a = gN d a := by rw [g, if_neg (by omega), if_neg (by omega)]
 refine ⟨by omega, by omega, by omega, fun k k1 k2 => ?_, fun k k1 k2 => ?_⟩
 ·rw [ga, g, if_neg (by omega)]
  by_cases hk : k = i
  ·rw [if_pos hk]; exact h2
  ·rw [if_neg hk]; exact h.lo k k1 (by omega)
 ·rw [ga, g]
  by_cases hk : k = j
  ·rw [if_pos hk]; exact h1
  ·rw [if_neg hk, if_neg (by omega)]; exact h.up k (by omega) k2

theorem ZQ {a b i j : Nat} {d : List Int} (h : MC a b i j d) (hb : b ≤ d.length) (hl : d.length < 2305843009213693951) : ∃ i' j' : Nat, MC a b i' j' d ∧ i ≤ i' ∧ j' ≤ j ∧ (j' < i' → j' + 1 = i') ∧ (i' ≤ j' → i' < j' ∧ gN d a < gN d i' ∧ gN d j' ≤ gN d a) ∧
  cX (a : Nat) d (i : Nat) (j : Nat) = eB d (a : Nat) (i' : Nat) (j' : Nat) := by
 have h1 := h.hi; have h2 := h.hij; have h3 := h.hj
 obtain ⟨i', e1, a1, a2, a3, a4⟩ := SD (body := fun s => eF (a : Nat) (j : Nat) s.1 s.2) (d := d) (p := fun k => ¬ gN d a < gN d k) (j := j) (aEn (a := a) (j := j) (d := d) (by omega) (by omega) hl) (j + 1 - i) i rfl h2
 obtain ⟨j', f1, c1, c2, c3, c4⟩ := KW (body := fun s => eC (a : Nat) (i' : Nat) s.1 s.2) (d := d) (p := fun k => gN d a < gN d k) (i := i') (m := j) (by omega) (aBp (a := a) (i := i') (m := j) (d := d) (by omega) (by omega) (by omega) hl) j (Nat.le_refl _) a2
 have hend : i' ≤ j' → i' < j' ∧ gN d a < gN d i' ∧ gN d j' ≤ gN d a := fun hh => by
  have k1 : gN d a < gN d i' := Classical.byContradiction fun hn => a4 (by omega) hn
  have k2 : ¬ gN d a < gN d j' := c4 hh
  refine ⟨?_, k1, by omega⟩
  rcases Nat.lt_or_ge i' j' with h | h
  ·exact h
  ·have : i' = j' := by omega
   rw [this] at k1; exact absurd k1 k2
 refine ⟨i', j', ⟨by omega, by omega, by omega, fun k k1 k2 => ?_, fun k k1 k2 => ?_⟩, a1, c2, fun hh => by omega, hend, ?_⟩
 ·by_cases hk : k < i
  ·exact h.lo k k1 hk
  ·have := a3 k (by omega) k2; omega
 ·by_cases hk : j < k
  ·exact h.up k hk k2
  ·exact c3 k k1 (by omega)
 ·unfold cX kG
  rw [show lp (fun s : List Int × Int => eF (a : Nat) (j : Nat) s.1 s.2) (d, (i : Int)) = some (d, (i' : Int)) from e1]
  simp only [Option.bind_some]
  unfold gM kH
  rw [show lp (fun s : List Int × Int => eC (a : Nat) (i' : Nat) s.1 s.2) (d, (j : Int)) = some (d, (j' : Int)) from f1]
  rfl

theorem aD9 {a b : Nat} : ∀ (n i j : Nat) (d : List Int), j + 1 - i = n → b ≤ d.length → d.length < 2305843009213693951 → MC a b i j d →
  ∃ (d' : List Int) (j' : Nat), lp (fun s : List Int × Int × Int => cX (a : Nat) s.1 s.2.1 s.2.2) (d, (i : Int), (j : Int)) = some (d', ((j' + 1 : Nat) : Int)) ∧ Rel (a + 1) b d d' ∧ MC a b (j' + 1) j' d' := by
 intro n
 induction n using Nat.strongRecOn with
 | ind n ih =>
  intro i j d h1 h2 h3 h
  obtain ⟨i', j', p1, p2, p3, p4, p5, p6⟩ := ZQ h h2 h3
  have q1 := p1.hi; have q2 := p1.hj; have q3 := p1.hij
  by_cases hlt : j' < i'
  ·have hs : cX (a : Nat) d (i : Nat) (j : Nat) = some (.inr (d, (i' : Int))) := by
    rw [p6]
    unfold eB
    have : decide ((j' : Int) < (i' : Int)) = true := by simp; omega
    rw [this, cond_true]
   have := p4 hlt
   exact ⟨d, j', by rw [this]; exact cE hs, Rel.refl .., by rw [this]; exact p1⟩
  ·obtain ⟨k1, k2, k3⟩ := p5 (by omega)
   have hs : cX (a : Nat) d (i : Nat) (j : Nat) = some (.inl (swp d i' j', ((i' + 1 : Nat) : Int), ((j' - 1 : Nat) : Int))) := by
    rw [p6]
    unfold eB
    have : decide ((j' : Int) < (i' : Int)) = false := by simp; omega
    rw [this, cond_false]
    simp only [Int.toNat_natCast]
    rw [aQ (asN (by omega)), aQ (asN (by omega)), aQ (asN (by omega)), aQ (asN (by omega)), wrN (x := (i' : Int) + 1) (n := i' + 1) (by omega) (by omega), wrN (x := (j' : Int) - 1) (n := j' - 1) (by omega) (by omega)]
    rfl
   obtain ⟨d', j2, e, r, p⟩ := ih (j' - 1 + 1 - (i' + 1)) (by omega) (i' + 1) (j' - 1) (swp d i' j') rfl (by rw [iP]; exact h2) (by rw [iP]; exact h3) (p1.swap h2 k1 k2 k3)
   exact ⟨d', j2, (dO hs).trans e, (Rel.swp (i := i') (j := j') (by omega) (by omega) (by omega) (by omega)).trans r, p⟩

theorem UQ {lo hi p : Nat} {d : List Int} (h0 : lo < hi) (hb : hi ≤ d.length) (hl : d.length < 2305843009213693951) (hp : lo ≤ p ∧ p < hi) :
  ∃ (m : Nat) (d' : List Int), fO d (lo : Int) (hi : Int) (p : Int) = some ((m : Int), d') ∧ lo < m ∧ m ≤ hi ∧ Rel lo hi d d' ∧ (∀ k, lo ≤ k → k < m → gN d' k ≤ gN d p) ∧ (∀ k, m ≤ k → k < hi → gN d p < gN d' k) := by
 unfold fO
 rw [aQ (asN (by omega)), aQ (asN (by omega)), aQ (asN (by omega)), aQ (asN (by omega)), wrN (x := (lo : Int) + 1) (n := lo + 1) (by omega) (by omega), wrN (x := (hi : Int) - 1) (n := hi - 1) (by omega) (by omega)]
 simp only [Int.toNat_natCast]
 have r0 : Rel lo hi d (swp d lo p) := Rel.swp (i := lo) (j := p) (by omega) (by omega) (by omega) (by omega)
 have l0 : (swp d lo p).length = d.length := iP ..
 have g := xO (d := d) (i := lo) (j := p) (by omega) (by omega)
 have g0 : gN (swp d lo p) lo = gN d p := by
  rw [g]
  by_cases hh : lo = p
  ·rw [if_pos hh, hh]
  ·rw [if_neg hh, if_pos rfl]
 have inv : MC lo hi (lo + 1) (hi - 1) (swp d lo p) := ⟨by omega, by omega, by omega, fun k k1 k2 => by omega, fun k k1 k2 => by omega⟩
 obtain ⟨d', j', e, r, pp⟩ := aD9 (a := lo) (b := hi) (hi - 1 + 1 - (lo + 1)) (lo + 1) (hi - 1) (swp d lo p) rfl (by rw [l0]; exact hb) (by rw [l0]; exact hl) inv
 have w1 := pp.hi; have w2 := pp.hj
 have ga : gN d' lo = gN d p := by rw [r.out lo (by omega), g0]
 unfold kN
 rw [show lp (fun s : List Int × Int × Int => cX (lo : Int) s.1 s.2.1 s.2.2) ((List.set (List.set d lo (List.getD d p default)) p (List.getD d lo default)), ((lo + 1 : Nat) : Int), ((hi - 1 : Nat) : Int)) = some (d', ((j' + 1 : Nat) : Int)) from e]
 refine ⟨j' + 1, d', rfl, by omega, by omega, r0.trans (r.mono (by omega) (Nat.le_refl _)), fun k k1 k2 => ?_, fun k k1 k2 => ?_⟩
 ·rw [← ga]
  by_cases hk : k = lo
  ·rw [hk]; exact Int.le_refl _
  ·exact pp.lo k (by omega) k2
 ·rw [← ga]; exact pp.up k (by omega) k2

theorem aAO {lo i : Nat} {d : List Int} : ∀ (n i' : Nat), i' - i = n → uK lo i d → lo < i → (∀ k, i ≤ k → k < i' → gN d (k - 1) ≤ gN d k) → uK lo i' d
 | 0, i', h, hs, _, _ => fun p q p1 p2 p3 => hs p q p1 p2 (by omega)
 | n + 1, i', h, hs, hl, hk => by
  have ih := aAO (d := d) n (i' - 1) (by omega) hs hl fun k k1 k2 => hk k k1 (by omega)
  intro p q p1 p2 p3
  by_cases hq : q = i' - 1
  ·by_cases hp : p = q
   ·rw [hp]; exact Int.le_refl _
   ·have h1 := hk q (by omega) (by omega)
    have h2 := ih p (q - 1) p1 (by omega) (by omega)
    omega
  ·exact ih p q p1 p2 (by omega)

theorem aDz {lo hi : Nat} {d : List Int} (x : Int) (hb : hi ≤ d.length) (hl : d.length < 2305843009213693951) : ∀ (n i : Nat), hi - i = n → 1 ≤ i → i ≤ hi →
  ∃ i' : Nat, lp (fun s : List Int × Int => cS (lo : Nat) (hi : Nat) x s.1 s.2) (d, (i : Int)) = some (d, (i' : Int)) ∧ i ≤ i' ∧ i' ≤ hi ∧ (∀ k, i ≤ k → k < i' → gN d (k - 1) ≤ gN d k) := by
 intro n
 induction n with
 | zero =>
  intro i h1 h2 h3
  refine ⟨i, cE ?_, Nat.le_refl _, h3, fun k k1 k2 => by omega⟩
  show cS _ _ _ _ _ = _
  have : decide ((i : Int) < (hi : Int)) = false := by simp; omega
  simp only [cS, this]
  rw [aQ (fun h => by cases h), aQ (fun h => by cases h)]
  rfl
 | succ n ih =>
  intro i h1 h2 h3
  have hd : decide ((i : Int) < (hi : Int)) = true := by simp; omega
  have hs : cS (lo : Nat) (hi : Nat) x d (i : Nat) = if gN d i < gN d (i - 1) then some (.inr (d, (i : Int))) else some (.inl (d, ((i + 1 : Nat) : Int))) := by
   unfold cS
   rw [hd, wrN (x := (i : Int) - 1) (n := i - 1) (by omega) (by omega), wrN (x := (i : Int) + 1) (n := i + 1) (by omega) (by omega), aQ fun _ => asN (by omega), aQ fun _ => asN (by omega)]
   simp only [eD, cond_true, wC, Option.bind_some, Bool.true_and, Int.toNat_natCast, gN]
   by_cases h : d.getD i default < d.getD (i - 1) default <;> simp [h]
  by_cases h : gN d i < gN d (i - 1)
  ·rw [if_pos h] at hs
   exact ⟨i, cE hs, Nat.le_refl _, h3, fun k k1 k2 => by omega⟩
  ·rw [if_neg h] at hs
   obtain ⟨i', e, a1, a2, a3⟩ := ih (i + 1) (by omega) (by omega) (by omega)
   refine ⟨i', (dO hs).trans e, by omega, a2, fun k k1 k2 => ?_⟩
   by_cases hk : k = i
   ·rw [hk]; omega
   ·exact a3 k (by omega) k2

theorem MZ {lo hi : Nat} {d d' : List Int} (r : Rel lo hi d d') (h : lo = 0 ∨ ∀ k, lo ≤ k → k < hi → gN d (lo - 1) ≤ gN d k) : lo = 0 ∨ ∀ k, lo ≤ k → k < hi → gN d' (lo - 1) ≤ gN d' k := by
 by_cases h0 : lo = 0
 ·exact .inl h0
 ·rcases h with h | h
  ·exact .inl h
  ·exact .inr fun k k1 k2 => by
    rw [r.out (lo - 1) (by omega)]
    exact r.all (p := fun v => gN d (lo - 1) ≤ v) h k k1 k2

theorem aD3 {lo hi i : Nat} (x y : Int) : ∀ (j : Nat) (d : List Int), lo ≤ j → j ≤ i → i < d.length → d.length < 2305843009213693951 → LA lo j i d → (lo = 0 ∨ ∀ k, lo ≤ k → k ≤ i → gN d (lo - 1) ≤ gN d k) →
  ∃ d', lp (fun s : List Int × Int => cK (lo : Nat) (hi : Nat) x y s.1 s.2) (d, (j : Int)) = some d' ∧ Rel lo (i + 1) d d' ∧ uK lo (i + 1) d' := by
 intro j
 induction j with
 | zero =>
  intro d h1 h2 h3 h4 h5 h6
  refine ⟨d, cE ?_, Rel.refl .., h5.done h1 (by omega)⟩
  show cK _ _ _ _ _ _ = _
  have : decide ((1 : Int) ≤ ((0 : Nat) : Int)) = false := by simp
  simp only [cK, this, cond_false]
 | succ j ih =>
  intro d h1 h2 h3 h4 h5 h6
  have hd : decide ((1 : Int) ≤ ((j + 1 : Nat) : Int)) = true := by simp; omega
  have hs : cK (lo : Nat) (hi : Nat) x y d ((j + 1 : Nat) : Int) = if gN d (j + 1) < gN d j then some (.inl (swp d (j + 1) j, (j : Int))) else some (.inr d) := by
   unfold cK
   rw [hd, cond_true, wrN (x := ((j + 1 : Nat) : Int) - 1) (n := j) (by omega) (by omega), aQ (asN (by omega)), aQ (asN (by omega))]
   simp only [wC, Option.bind_some, Int.toNat_natCast, gN]
   by_cases h : d.getD (j + 1) default < d.getD j default
   ·simp only [h, decide_true, Bool.not_true, cond_false, if_true]
    rw [aQ (asN (by omega)), aQ (asN (by omega)), aQ (asN (by omega)), aQ (asN (by omega))]
    rfl
   ·simp only [h, decide_false, Bool.not_false, cond_true, if_false]
  by_cases h : gN d (j + 1) < gN d j
  ·rw [if_pos h] at hs
   have hlo : lo < j + 1 := by
    rcases h6 with h6 | h6
    ·omega
    ·rcases Nat.lt_or_ge lo (j + 1) with hh | hh
     ·exact hh
     ·have : lo = j + 1 := by omega
      have h7 := h6 (j + 1) (by omega) h2
      rw [this] at h7
      simp only [Nat.add_sub_cancel] at h7
      omega
   have r1 : Rel lo (i + 1) d (swp d (j + 1) j) := Rel.swp (i := j + 1) (j := j) (by omega) (by omega) (by omega) (by omega)
   obtain ⟨d', e, r, s⟩ := ih (swp d (j + 1) j) (by omega) (by omega) (by rw [iP]; exact h3) (by rw [iP]; exact h4) (h5.next hlo h2 h3 h) ((MZ r1 (h6.imp id fun h k a b => h k a (by omega))).imp id fun h k a b => h k a (by omega))
   exact ⟨d', (dO hs).trans e, r1.trans r, s⟩
  ·rw [if_neg h] at hs
   exact ⟨d, cE hs, Rel.refl .., h5.done h1 fun hh => h hh.2⟩

theorem aF1 {lo hi i : Nat} (x y : Int) : ∀ (n j : Nat) (d : List Int), hi - j = n → i < j → hi ≤ d.length → d.length < 2305843009213693951 →
  ∃ d', lp (fun s : List Int × Int => cT (lo : Nat) (hi : Nat) x y s.1 s.2) (d, (j : Int)) = some d' ∧ Rel i hi d d' := by
 intro n
 induction n with
 | zero =>
  intro j d h1 h2 h3 h4
  refine ⟨d, cE ?_, Rel.refl ..⟩
  show cT _ _ _ _ _ _ = _
  have : decide ((j : Int) < (hi : Int)) = false := by simp; omega
  simp only [cT, this, cond_false]
 | succ n ih =>
  intro j d h1 h2 h3 h4
  have hd : decide ((j : Int) < (hi : Int)) = true := by simp; omega
  have hs : cT (lo : Nat) (hi : Nat) x y d (j : Nat) = if gN d j < gN d (j - 1) then some (.inl (swp d j (j - 1), ((j + 1 : Nat) : Int))) else some (.inr d) := by
   unfold cT
   rw [hd, cond_true, wrN (x := (j : Int) - 1) (n := j - 1) (by omega) (by omega), wrN (x := (j : Int) + 1) (n := j + 1) (by omega) (by omega), aQ (asN (by omega)), aQ (asN (by omega))]
   simp only [wC, Option.bind_some, Int.toNat_natCast, gN]
   by_cases h : d.getD j default < d.getD (j - 1) default
   ·simp only [h, decide_true, Bool.not_true, cond_false, if_true]
    rw [aQ (asN (by omega)), aQ (asN (by omega)), aQ (asN (by omega)), aQ (asN (by omega))]
    rfl
   ·simp only [h, decide_false, Bool.not_false, cond_true, if_false]
  by_cases h : gN d j < gN d (j - 1)
  ·rw [if_pos h] at hs
   obtain ⟨d', e, r⟩ := ih (j + 1) (swp d j (j - 1)) (by omega) (by omega) (by rw [iP]; exact h3) (by rw [iP]; exact h4)
   exact ⟨d', (dO hs).trans e, (Rel.swp (i := j) (j := j - 1) (by omega) (by omega) (by omega) (by omega)).trans r⟩
  ·rw [if_neg h] at hs
   exact ⟨d, cE hs, Rel.refl ..⟩

theorem aB0 {lo hi i : Nat} (x : Int) {d : List Int} (h1 : lo < i) (h2 : i < hi) (h3 : hi ≤ d.length) (h4 : d.length < 2305843009213693951) :
  ∃ d', cL d (lo : Nat) (hi : Nat) (i : Nat) x = some (.inl (d', (i : Int), IntKind.i64.wrap (x + 1))) ∧ Rel i hi d d' := by
 unfold cL
 rw [wrN (x := (hi : Int) - (i : Int)) (n := hi - i) (by omega) (by omega)]
 by_cases h : (2 : Int) ≤ ((hi - i : Nat) : Int)
 ·simp only [h, decide_true, cond_true]
  unfold gW
  rw [wrN (x := (i : Int) + 1) (n := i + 1) (by omega) (by omega)]
  obtain ⟨d', e, r⟩ := aF1 (lo := lo) (hi := hi) (i := i) (i : Int) x (hi - (i + 1)) (i + 1) d rfl (by omega) h3 h4
  rw [e]
  exact ⟨d', rfl, r⟩
 ·simp only [h, decide_false, cond_false]
  exact ⟨d, rfl, Rel.refl ..⟩

theorem aD2 {lo hi i : Nat} (x : Int) {d : List Int} (h1 : lo < i) (h2 : i ≤ hi) (h3 : hi ≤ d.length) (h4 : d.length < 2305843009213693951) (hs : uK lo i d) (hb : lo = 0 ∨ ∀ k, lo ≤ k → k < hi → gN d (lo - 1) ≤ gN d k) :
  (∃ (fl : Bool) (d' : List Int), dJ d (lo : Nat) (hi : Nat) (i : Nat) x = some (.inr (.inr (fl, d'))) ∧ Rel lo hi d d' ∧ (fl = true → uK lo hi d')) ∨
  (∃ (d' : List Int) (i' : Nat), dJ d (lo : Nat) (hi : Nat) (i : Nat) x = some (.inl (d', (i' : Int), IntKind.i64.wrap (x + 1))) ∧ Rel lo hi d d' ∧ lo < i' ∧ i' ≤ hi ∧ uK lo i' d') := by
 unfold dJ
 obtain ⟨i', e, a1, a2, a3⟩ := aDz (lo := lo) (hi := hi) x h3 h4 (hi - i) i rfl (by omega) h2
 rw [e]
 simp only [Option.bind_some]
 have hs' := aAO (i' - i) i' rfl hs h1 a3
 unfold fE
 by_cases hi' : i' = hi
 ·have : decide ((i' : Int) = (hi : Int)) = true := by simp; omega
  rw [this, cond_true]
  left
  exact ⟨true, d, rfl, Rel.refl .., fun _ => hi' ▸ hs'⟩
 ·have hne : decide ((i' : Int) = (hi : Int)) = false := by simp; omega
  rw [hne, cond_false, wrN (x := (hi : Int) - (lo : Int)) (n := hi - lo) (by omega) (by omega)]
  by_cases h50 : ((hi - lo : Nat) : Int) < 50
  ·simp only [h50, decide_true, cond_true]
   left
   exact ⟨false, d, rfl, Rel.refl .., fun h => by cases h⟩
  ·simp only [h50, decide_false, cond_false]
   rw [wrN (x := (i' : Int) - 1) (n := i' - 1) (by omega) (by omega), wrN (x := (i' : Int) - (lo : Int)) (n := i' - lo) (by omega) (by omega)]
   simp only [Int.toNat_natCast]
   rw [aQ (asN (by omega)), aQ (asN (by omega)), aQ (asN (by omega)), aQ (asN (by omega))]
   have r1 : Rel lo hi d (swp d i' (i' - 1)) := Rel.swp (i := i') (j := i' - 1) (by omega) (by omega) (by omega) (by omega)
   have l1 : (swp d i' (i' - 1)).length = d.length := iP ..
   have g := xO (d := d) (i := i') (j := i' - 1) (by omega) (by omega)
   right
   by_cases hge : (2 : Int) ≤ ((i' - lo : Nat) : Int)
   ·simp only [hge, decide_true, cond_true]
    unfold gX
    have ins : LA lo (i' - 1) (i' - 1) (swp d i' (i' - 1)) := ⟨fun p q p1 p2 p3 p4 p5 => by
     rw [g, g, if_neg p4, if_neg p5, if_neg (by omega), if_neg (by omega)]
     exact hs' p q p1 p2 (by omega), fun q q1 q2 => by omega⟩
    obtain ⟨d2, e2, r2, s2⟩ := aD3 (lo := lo) (hi := hi) (i := i' - 1) (i' : Int) x (i' - 1) (swp d i' (i' - 1)) (by omega) (Nat.le_refl _) (by rw [l1]; omega) (by rw [l1]; exact h4) ins ((MZ r1 hb).imp id fun h k a b => h k a (by omega))
    have e2' : lp (fun s : List Int × Int => cK (lo : Int) (hi : Int) (i' : Int) x s.1 s.2) ((List.set (List.set d i' (List.getD d (i' - 1) default)) (i' - 1) (List.getD d i' default)), ((i' - 1 : Nat) : Int)) = some d2 := e2
    rw [e2']
    simp only [Option.bind_some]
    rw [show i' - 1 + 1 = i' by omega] at r2 s2
    have l2 : d2.length = d.length := by rw [r2.len, l1]
    obtain ⟨d3, e3, r3⟩ := aB0 (lo := lo) (hi := hi) (i := i') x (d := d2) (by omega) (by omega) (by omega) (by omega)
    rw [e3]
    refine ⟨d3, i', rfl, (r1.trans (r2.mono (Nat.le_refl _) (by omega))).trans (r3.mono (by omega) (Nat.le_refl _)), by omega, a2, fun p q p1 p2 p3 => ?_⟩
    rw [r3.out p (by omega), r3.out q (by omega)]
    exact s2 p q p1 p2 p3
   ·simp only [hge, decide_false, cond_false]
    obtain ⟨d3, e3, r3⟩ := aB0 (lo := lo) (hi := hi) (i := i') x (d := swp d i' (i' - 1)) (by omega) (by omega) (by omega) (by omega)
    have e3' : cL (List.set (List.set d i' (List.getD d (i' - 1) default)) (i' - 1) (List.getD d i' default)) (lo : Int) (hi : Int) (i' : Int) x = _ := e3
    rw [e3']
    refine ⟨d3, i', rfl, r1.trans (r3.mono (by omega) (Nat.le_refl _)), by omega, a2, ?_⟩
    have : i' = lo + 1 := by omega
    rw [this]; exact PD lo d3

theorem aFA {lo hi : Nat} : ∀ (n x i : Nat) (d : List Int), 5 - x = n → lo < i → i ≤ hi → hi ≤ d.length → d.length < 2305843009213693951 → uK lo i d → (lo = 0 ∨ ∀ k, lo ≤ k → k < hi → gN d (lo - 1) ≤ gN d k) → x ≤ 5 →
  ∃ (fl : Bool) (d' : List Int), (lp (fun s : List Int × Int × Int => bY (lo : Nat) (hi : Nat) s.1 s.2.1 s.2.2) (d, (i : Int), (x : Int))).bind (Sum.elim (fun rr => fB rr) (fun rr => some (rr.1, rr.2))) = some (fl, d') ∧ Rel lo hi d d' ∧ (fl = true → uK lo hi d') := by
 intro n
 induction n with
 | zero =>
  intro x i d h1 h2 h3 h4 h5 h6 h7 h8
  have hs : bY (lo : Nat) (hi : Nat) d (i : Nat) (x : Nat) = some (.inr (.inl d)) := by
   have : decide ((x : Int) < 5) = false := by simp; omega
   simp only [bY, this, cond_false]
  rw [cE (show (fun s : List Int × Int × Int => bY (lo : Nat) (hi : Nat) s.1 s.2.1 s.2.2) (d, (i : Int), (x : Int)) = _ from hs)]
  exact ⟨false, d, rfl, Rel.refl .., fun h => by cases h⟩
 | succ n ih =>
  intro x i d h1 h2 h3 h4 h5 h6 h7 h8
  have hl2 : bY (lo : Nat) (hi : Nat) d (i : Nat) (x : Nat) = dJ d (lo : Nat) (hi : Nat) (i : Nat) (x : Nat) := by
   have : decide ((x : Int) < 5) = true := by simp; omega
   simp only [bY, this, cond_true]
  rcases aD2 (lo := lo) (hi := hi) (x : Int) h2 h3 h4 h5 h6 h7 with ⟨fl, d', e, r, s⟩ | ⟨d', i', e, r, k1, k2, s⟩
  ·rw [cE (show (fun s : List Int × Int × Int => bY (lo : Nat) (hi : Nat) s.1 s.2.1 s.2.2) (d, (i : Int), (x : Int)) = _ from hl2.trans e)]
   exact ⟨fl, d', rfl, r, s⟩
  ·rw [wrN (x := (x : Int) + 1) (n := x + 1) (by omega) (by omega)] at e
   obtain ⟨fl, d2, e2, r2, s2⟩ := ih (x + 1) i' d' (by omega) k1 k2 (by rw [r.len]; exact h4) (by rw [r.len]; exact h5) s (MZ r h7) (by omega)
   rw [dO (show (fun s : List Int × Int × Int => bY (lo : Nat) (hi : Nat) s.1 s.2.1 s.2.2) (d, (i : Int), (x : Int)) = _ from hl2.trans e)]
   exact ⟨fl, d2, e2, r.trans r2, s2⟩

theorem aEj {lo hi : Nat} {d : List Int} (h0 : lo < hi) (h1 : hi ≤ d.length) (h2 : d.length < 2305843009213693951) (hb : lo = 0 ∨ ∀ k, lo ≤ k → k < hi → gN d (lo - 1) ≤ gN d k) :
  ∃ (fl : Bool) (d' : List Int), fH d (lo : Int) (hi : Int) = some (fl, d') ∧ Rel lo hi d d' ∧ (fl = true → uK lo hi d') := by
 unfold fH gY
 rw [wrN (x := (lo : Int) + 1) (n := lo + 1) (by omega) (by omega)]
 exact aFA (lo := lo) (hi := hi) (5 - 0) 0 (lo + 1) d rfl (by omega) (by omega) h1 h2 (PD lo d) hb (by omega)

end Go.Abs
namespace Go.Abs
open Go
abbrev PS := List Int × Int × Int × Int × Bool × Bool

abbrev PR := List Int → Int → Int → Int → Option (List Int)

def DP (a b : Nat) (d d' : List Int) : Prop := Rel a b d d' ∧ uK a b d'

structure DD (a b lim : Nat) (d : List Int) : Prop where
 ab : a ≤ b
 bl : b ≤ d.length
 len : d.length < 2305843009213693951
 bnd : a = 0 ∨ ∀ k, a ≤ k → k < b → gN d (a - 1) ≤ gN d k
 lim : lim ≤ 100

def MW (rec : PR) (N : Nat) : Prop := ∀ (d : List Int) (a b lim : Nat), DD a b lim d → (rec d (a : Int) (b : Int) (lim : Int) = none ∧ N ≤ b - a) ∨ ∃ d', rec d (a : Int) (b : Int) (lim : Int) = some d' ∧ DP a b d d'

def JN (N a b : Nat) (d : List Int) (F : Option (PS ⊕ List Int)) : Prop :=
 (F = none ∧ N + 1 ≤ b - a) ∨ (∃ d', F = some (.inr d') ∧ DP a b d d') ∨
 ∃ (d' : List Int) (a' b' lim' : Nat) (wb wp : Bool), F = some (.inl (d', (a' : Int), (b' : Int), (lim' : Int), wb, wp)) ∧ b' - a' < b - a ∧ DD a' b' lim' d' ∧ ∀ d'', DP a' b' d' d'' → DP a b d d''

theorem DP.pre {a b : Nat} {d d1 d' : List Int} (r : Rel a b d d1) (h : DP a b d1 d') : DP a b d d' := ⟨r.trans h.1, h.2⟩

theorem JN.pre {N a b : Nat} {d d1 : List Int} {F : Option (PS ⊕ List Int)} (r : Rel a b d d1) (h : JN N a b d1 F) : JN N a b d F := by
 rcases h with h | ⟨d', h1, h2⟩ | ⟨d', a', b', lim', wb, wp, h1, h2, h3, h4⟩
 ·exact .inl h
 ·exact .inr (.inl ⟨d', h1, h2.pre r⟩)
 ·exact .inr (.inr ⟨d', a', b', lim', wb, wp, h1, h2, h3, fun d'' hg => (h4 d'' hg).pre r⟩)

theorem DD.rel {a b lim : Nat} {d d1 : List Int} (h : DD a b lim d) (r : Rel a b d d1) : DD a b lim d1 :=
 ⟨h.ab, by rw [r.len]; exact h.bl, by rw [r.len]; exact h.len, MZ r h.bnd, h.lim⟩

theorem XD {a m b : Nat} {d : List Int} (hm : m < b) (h1 : ∀ k, a ≤ k → k < m → gN d k ≤ gN d m) (h2 : ∀ k, m < k → k < b → gN d m ≤ gN d k) (s1 : uK a m d) (s2 : uK (m + 1) b d) : uK a b d := by
 intro p q p1 p2 p3
 by_cases hq : q < m
 ·exact s1 p q p1 p2 hq
 ·by_cases hp : m < p
  ·exact s2 p q hp p2 p3
  ·have g1 : gN d p ≤ gN d m := by
    by_cases e : p = m
    ·rw [e]; exact Int.le_refl _
    ·exact h1 p p1 (by omega)
   have g2 : gN d m ≤ gN d q := by
    by_cases e : q = m
    ·rw [e]; exact Int.le_refl _
    ·exact h2 q (by omega) p3
   omega

theorem aDc {rec : PR} {N a b lim p : Nat} {d : List Int} (hrec : MW rec N) (hv : DD a b lim d) (h12 : 12 < b - a) (hp : a ≤ p ∧ p < b) (wb wp : Bool) (len : Int) :
  JN N a b d (iU rec d (a : Int) (b : Int) (lim : Int) wb wp len (p : Int)) := by
 have hb := hv.bl; have hl := hv.len
 -- with all equal ones on the left
 have eqc : 0 < a → ¬ gN d (a - 1) < gN d p → JN N a b d ((fO d (a : Int) (b : Int) (p : Int)).bind fun x20 => some (.inl (x20.2, x20.1, (b : Int), (lim : Int), wb, wp))) := by
  intro ha hn
  obtain ⟨m, d', e, m1, m2, r, q1, q2⟩ := UQ (lo := a) (hi := b) (p := p) (d := d) (by omega) hb hl hp
  have hall : ∀ k, a ≤ k → k < b → gN d p ≤ gN d' k := by
   refine r.all (p := fun v => gN d p ≤ v) fun k k1 k2 => ?_
   rcases hv.bnd with h | h
   ·omega
   ·have := h k k1 k2; omega
  rw [e]
  refine .inr (.inr ⟨d', m, b, lim, wb, wp, rfl, by omega, ⟨m2, by rw [r.len]; exact hb, by rw [r.len]; exact hl, .inr fun k k1 k2 => ?_, hv.lim⟩, fun d'' hg => ⟨r.trans (hg.1.mono (by omega) (Nat.le_refl _)), fun x y x1 x2 x3 => ?_⟩⟩)
  ·have := q1 (m - 1) (by omega) (by omega); have := q2 k k1 k2; omega
  ·by_cases hx : m ≤ x
   ·exact hg.2 x y hx x2 x3
   ·rw [hg.1.out x (by omega)]
    have g1 := q1 x x1 (by omega)
    by_cases hy : y < m
    ·rw [hg.1.out y (by omega)]
     have g2 := hall y (by omega) (by omega); omega
    ·have g2 := hg.1.all (p := fun v => gN d p < v) q2 y (by omega) x3
     omega
 -- a partition, and the lesser part first
 have ptc : JN N a b d ((iF d (a : Int) (b : Int) (p : Int)).bind fun x23 =>
   bA ((8 : Int) ≠ 0) <|
   cond (decide ((IntKind.i64.wrap (x23.1.1 - (a : Int))) < (IntKind.i64.wrap ((b : Int) - x23.1.1))))
   ((rec x23.2 (a : Int) x23.1.1 (lim : Int)).bind fun x28 =>
   some (.inl (x28, IntKind.i64.wrap (x23.1.1 + (1 : Int)), (b : Int), (lim : Int), decide ((IntKind.i64.wrap (Int.tdiv len (8 : Int))) ≤ (IntKind.i64.wrap (x23.1.1 - (a : Int)))), x23.1.2)))
   ((rec x23.2 (IntKind.i64.wrap (x23.1.1 + (1 : Int))) (b : Int) (lim : Int)).bind fun x31 =>
   some (.inl (x31, (a : Int), x23.1.1, (lim : Int), decide ((IntKind.i64.wrap (Int.tdiv len (8 : Int))) ≤ (IntKind.i64.wrap ((b : Int) - x23.1.1))), x23.1.2)))) := by
  obtain ⟨m, fl, d1, e, m1, m2, r, q1, q2⟩ := YA (lo := a) (hi := b) (p := p) (d := d) (by omega) hb hl hp
  have hv1 := hv.rel r
  rw [e]
  simp only [Option.bind_some]
  rw [aQ (by decide), wrN (x := (m : Int) + 1) (n := m + 1) (by omega) (by omega)]
  have vL : DD a m lim d1 := ⟨m1, by have := hv1.bl; omega, hv1.len, hv1.bnd.imp id fun h k k1 k2 => h k k1 (by omega), hv.lim⟩
  have vR : DD (m + 1) b lim d1 := ⟨by omega, hv1.bl, hv1.len, .inr fun k k1 k2 => by simpa using q2 k (by omega) k2, hv.lim⟩
  cases decide ((IntKind.i64.wrap ((m : Int) - (a : Int))) < (IntKind.i64.wrap ((b : Int) - (m : Int)))) with
  | true =>
   rw [cond_true]
   rcases hrec d1 a m lim vL with ⟨hn, hN⟩ | ⟨d2, e2, g2⟩
   ·rw [hn]; exact .inl ⟨rfl, by omega⟩
   ·rw [e2]
    simp only [Option.bind_some]
    have top : gN d2 m = gN d1 m := g2.1.out m (by omega)
    refine .inr (.inr ⟨d2, m + 1, b, lim, _, _, rfl, by omega, ⟨by omega, by rw [g2.1.len]; exact hv1.bl, by rw [g2.1.len]; exact hv1.len, .inr fun k k1 k2 => ?_, hv.lim⟩, fun d3 hg => ⟨(r.trans (g2.1.mono (Nat.le_refl _) (by omega))).trans (hg.1.mono (by omega) (Nat.le_refl _)), ?_⟩⟩)
    ·rw [show m + 1 - 1 = m by omega, top, g2.1.out k (by omega)]; exact q2 k (by omega) k2
    ·have o3 : ∀ k, k ≤ m → gN d3 k = gN d2 k := fun k hk => hg.1.out k (by omega)
     refine XD m2 (fun k k1 k2 => ?_) (fun k k1 k2 => ?_) (fun x y x1 x2 x3 => by rw [o3 x (by omega), o3 y (by omega)]; exact g2.2 x y x1 x2 x3) hg.2
     ·rw [o3 k (by omega), o3 m (by omega), top]
      exact g2.1.all (p := fun v => v ≤ gN d1 m) q1 k k1 k2
     ·rw [o3 m (by omega), top]
      exact hg.1.all (p := fun v => gN d1 m ≤ v) (fun k k1 k2 => by rw [g2.1.out k (by omega)]; exact q2 k (by omega) k2) k (by omega) k2
  | false =>
   rw [cond_false]
   rcases hrec d1 (m + 1) b lim vR with ⟨hn, hN⟩ | ⟨d2, e2, g2⟩
   ·rw [hn]; exact .inl ⟨rfl, by omega⟩
   ·rw [e2]
    simp only [Option.bind_some]
    have low : ∀ k, k ≤ m → gN d2 k = gN d1 k := fun k hk => g2.1.out k (by omega)
    refine .inr (.inr ⟨d2, a, m, lim, _, _, rfl, by omega, ⟨m1, by rw [g2.1.len]; have := hv1.bl; omega, by rw [g2.1.len]; exact hv1.len, ?_, hv.lim⟩, fun d3 hg => ⟨(r.trans (g2.1.mono (by omega) (Nat.le_refl _))).trans (hg.1.mono (Nat.le_refl _) (by omega)), ?_⟩⟩)
    ·rcases hv1.bnd with h | h
     ·exact .inl h
     ·exact .inr fun k k1 k2 => by rw [low (a - 1) (by omega), low k (by omega)]; exact h k k1 (by omega)
    ·have o3 : ∀ k, m ≤ k → gN d3 k = gN d2 k := fun k hk => hg.1.out k (by omega)
     refine XD m2 (fun k k1 k2 => ?_) (fun k k1 k2 => ?_) hg.2 (fun x y x1 x2 x3 => by rw [o3 x (by omega), o3 y (by omega)]; exact g2.2 x y x1 x2 x3)
     ·rw [o3 m (Nat.le_refl _), low m (Nat.le_refl _)]
      exact hg.1.all (p := fun v => v ≤ gN d1 m) (fun k k1 k2 => by rw [low k (by omega)]; exact q1 k k1 k2) k k1 k2
     ·rw [o3 m (Nat.le_refl _), low m (Nat.le_refl _), o3 k (by omega)]
      exact g2.1.all (p := fun v => gN d1 m ≤ v) (fun k k1 k2 => q2 k (by omega) k2) k (by omega) k2
 unfold iU
 by_cases ha : 0 < a
 ·have hd : decide ((0 : Int) < (a : Int)) = true := by simp; omega
  rw [hd, wrN (x := (a : Int) - 1) (n := a - 1) (by omega) (by omega), aQ fun _ => asN (by omega), aQ fun _ => asN (by omega)]
  simp only [eD, cond_true, wC, Option.bind_some, Bool.true_and, Int.toNat_natCast]
  by_cases hlt : gN d (a - 1) < gN d p
  ·simp only [gN] at hlt
   simp only [hlt, decide_true, Bool.not_true, cond_false]
   exact ptc
  ·have := eqc ha hlt
   simp only [gN] at hlt
   simp only [hlt, decide_false, Bool.not_false, cond_true]
   exact this
 ·have hd : decide ((0 : Int) < (a : Int)) = false := by simp; omega
  rw [hd, aQ (fun h => by cases h), aQ (fun h => by cases h)]
  simp only [eD, cond_false, Option.bind_some, Bool.false_and]
  exact ptc

theorem aCY {rec : PR} {N a b lim p : Nat} {d : List Int} (hrec : MW rec N) (hv : DD a b lim d) (h12 : 12 < b - a) (hp : a ≤ p ∧ p < b) (wb wp : Bool) (len hint : Int) :
  JN N a b d (iT rec d (a : Int) (b : Int) (lim : Int) wb wp len (p : Int) hint) := by
 unfold iT
 cases ((wb && wp) && (decide (hint = (1 : Int)))) with
 | false => exact aDc hrec hv h12 hp wb wp len
 | true =>
  rw [cond_true]
  obtain ⟨fl, d', e, r, s⟩ := aEj (lo := a) (hi := b) (d := d) (by omega) hv.bl hv.len hv.bnd
  rw [e]
  simp only [Option.bind_some]
  cases fl with
  | true => exact .inr (.inl ⟨d', rfl, r, s rfl⟩)
  | false => exact (aDc hrec (hv.rel r) h12 hp wb wp len).pre r

theorem aC2 {rec : PR} {N a b lim : Nat} {d : List Int} (hrec : MW rec N) (hv : DD a b lim d) (h12 : 12 < b - a) (wb wp : Bool) (len : Int) :
  JN N a b d (iQ rec d (a : Int) (b : Int) (lim : Int) wb wp len) := by
 have hb := hv.bl; have hl := hv.len
 unfold iQ
 obtain ⟨p, h, e, p1, p2⟩ := aAV (lo := a) (hi := b) (d := d) h12 hb hl
 rw [e]
 simp only [Option.bind_some]
 by_cases h2 : h = 2
 ·simp only [h2, decide_true, cond_true]
  obtain ⟨d', e2, r⟩ := aBY (lo := a) (hi := b) (d := d) (by omega) hb (by omega)
  rw [e2]
  simp only [Option.bind_some]
  rw [wrN (x := (b : Int) - 1) (n := b - 1) (by omega) (by omega), wrN (x := (p : Int) - (a : Int)) (n := p - a) (by omega) (by omega), wrN (x := ((b - 1 : Nat) : Int) - ((p - a : Nat) : Int)) (n := b - 1 - (p - a)) (by omega) (by omega)]
  exact (aCY hrec (hv.rel r) h12 ⟨by omega, by omega⟩ wb wp len 1).pre r
 ·simp only [h2, decide_false, cond_false]
  exact aCY hrec hv h12 ⟨p1, p2⟩ wb wp len h

theorem aFR {rec : PR} {N a b lim : Nat} {d : List Int} (hrec : MW rec N) (hv : DD a b lim d) (wb wp : Bool) :
  JN N a b d (eX rec d (a : Int) (b : Int) (lim : Int) wb wp) := by
 have hb := hv.bl; have hl := hv.len; have hab := hv.ab
 unfold eX
 rw [wrN (x := (b : Int) - (a : Int)) (n := b - a) (by omega) (by omega)]
 by_cases h12 : ((b - a : Nat) : Int) ≤ 12
 ·simp only [h12, decide_true, cond_true]
  obtain ⟨d', e, r, s⟩ := aDU (lo := a) (hi := b) (d := d) hb (by omega) hab
  rw [e]
  exact .inr (.inl ⟨d', rfl, r, s⟩)
 ·simp only [h12, decide_false, cond_false]
  by_cases h0 : lim = 0
  ·have : decide ((lim : Int) = 0) = true := by simp; exact h0
   rw [this, cond_true]
   obtain ⟨d', e, r, s⟩ := aDh (lo := a) (hi := b) (d := d) (by omega) hb hl
   rw [e]
   exact .inr (.inl ⟨d', rfl, r, s⟩)
  ·have : decide ((lim : Int) = 0) = false := by simp; exact h0
   rw [this, cond_false]
   cases wb with
   | true => exact aC2 hrec hv (by omega) true wp _
   | false =>
    simp only [Bool.not_false, cond_true]
    obtain ⟨d', e, r⟩ := aB8 (lo := a) (hi := b) (d := d) (by omega) hb hl
    rw [e]
    simp only [Option.bind_some]
    have hlim := hv.lim
    rw [wrN (x := (lim : Int) - 1) (n := lim - 1) (by omega) (by omega)]
    have hv' := hv.rel r
    exact (aC2 hrec ⟨hv'.ab, hv'.bl, hv'.len, hv'.bnd, by omega⟩ (by omega) false wp _).pre r

theorem aE3 {S R : Type} {body : S → Option (S ⊕ R)} {s : S} (h : body s = none) : lp body s = none := by
 cases e : lp body s with
 | none => rfl
 | some r =>
  obtain ⟨k, hk⟩ := MU.1 e
  cases k with
  | zero => simp [iter] at hk
  | succ k => simp [iter, h] at hk

theorem aFx {rec : PR} {N : Nat} (hrec : MW rec N) : ∀ (n a b lim : Nat) (d : List Int) (wb wp : Bool), b - a = n → DD a b lim d →
  (lp (fun s : PS => eX rec s.1 s.2.1 s.2.2.1 s.2.2.2.1 s.2.2.2.2.1 s.2.2.2.2.2) (d, (a : Int), (b : Int), (lim : Int), wb, wp) = none ∧ N + 1 ≤ b - a) ∨
  ∃ d', lp (fun s : PS => eX rec s.1 s.2.1 s.2.2.1 s.2.2.2.1 s.2.2.2.2.1 s.2.2.2.2.2) (d, (a : Int), (b : Int), (lim : Int), wb, wp) = some d' ∧ DP a b d d' := by
 intro n
 induction n using Nat.strongRecOn with
 | ind n ih =>
  intro a b lim d wb wp hn hv
  rcases aFR hrec hv wb wp with ⟨h1, h2⟩ | ⟨d', h1, h2⟩ | ⟨d', a', b', lim', wb', wp', h1, h2, h3, h4⟩
  ·exact .inl ⟨aE3 h1, h2⟩
  ·exact .inr ⟨d', cE h1, h2⟩
  ·rw [dO (show (fun s : PS => eX rec s.1 s.2.1 s.2.2.1 s.2.2.2.1 s.2.2.2.2.1 s.2.2.2.2.2) (d, (a : Int), (b : Int), (lim : Int), wb, wp) = _ from h1)]
   rcases ih (b' - a') (by omega) a' b' lim' d' wb' wp' rfl h3 with ⟨g1, g2⟩ | ⟨d2, g1, g2⟩
   ·exact .inl ⟨g1, by omega⟩
   ·exact .inr ⟨d2, g1, h4 d2 g2⟩

theorem WV : ∀ k : Nat, MW (dP k) k
 | 0 => fun _ _ _ _ _ => .inl ⟨rfl, Nat.zero_le _⟩
 | k + 1 => fun d a b lim hv => by
  show (gP (dP k) d a b lim = none ∧ _) ∨ ∃ d', gP (dP k) d a b lim = some d' ∧ _
  unfold gP pH
  rcases aFx (WV k) (b - a) a b lim d true true rfl hv with ⟨h1, h2⟩ | ⟨d', h1, h2⟩
  ·rw [h1]; exact .inl ⟨rfl, h2⟩
  ·rw [h1]; exact .inr ⟨d', rfl, h2⟩

theorem aFw {a b lim : Nat} {d : List Int} (hv : DD a b lim d) : ∃ d', lU d (a : Int) (b : Int) (lim : Int) = some d' ∧ DP a b d d' := by
 unfold lU
 obtain ⟨d', e, g⟩ : ∃ d', dP (b - a + 1) d (a : Int) (b : Int) (lim : Int) = some d' ∧ DP a b d d' := by
  rcases WV (b - a + 1) d a b lim hv with ⟨_, h⟩ | h
  ·omega
  ·exact h
 cases hf : HF (fun k => dP k d (a : Int) (b : Int) (lim : Int)) with
 | none =>
  exfalso
  unfold HF at hf
  have hex : ∃ k r, dP k d (a : Int) (b : Int) (lim : Int) = some r := ⟨_, d', e⟩
  rw [dif_pos hex] at hf
  obtain ⟨r, hr⟩ := Classical.choose_spec hex
  have hf' : dP (Classical.choose hex) d (a : Int) (b : Int) (lim : Int) = none := hf
  rw [hr] at hf'
  cases hf'
 | some r =>
  obtain ⟨k, hk⟩ := EJ hf
  rcases WV k d a b lim hv with ⟨h, _⟩ | ⟨d2, h, g2⟩
  ·rw [h] at hk; cases hk
  ·rw [h] at hk; cases hk; exact ⟨_, rfl, g2⟩

theorem aEP {d : List Int} (hl : d.length < 2305843009213693951) : ∃ d', nT d = some d' ∧ d'.Perm d ∧ d'.Pairwise (· ≤ ·) := by
 unfold nT
 have hL : ∃ L : Nat, nJ (IntKind.u64.wrap ((List.length d : Nat) : Int)) = some (L : Int) ∧ L ≤ 100 := by
  rw [KT (by omega) (by omega)]
  by_cases h0 : d.length = 0
  ·rw [h0]; exact ⟨0, aD0, by omega⟩
  ·obtain ⟨k, e, h1, _⟩ := aC6 (x := ((List.length d : Nat) : Int)) (by omega) (by omega)
   exact ⟨k + 1, by rw [e]; rfl, by omega⟩
 obtain ⟨L, eL, hL⟩ := hL
 rw [eL]
 simp only [Option.bind_some]
 obtain ⟨d', e, g⟩ := aFw (a := 0) (b := d.length) (lim := L) (d := d) ⟨Nat.zero_le _, Nat.le_refl _, hl, .inl rfl, hL⟩
 have e' : lU d 0 ((List.length d : Nat) : Int) (L : Int) = some d' := e
 rw [e']
 refine ⟨d', rfl, g.1.perm, List.pairwise_iff_getElem.2 fun i j hi hj hij => ?_⟩
 have := g.2 i j (Nat.zero_le _) (by omega) (by rw [g.1.len] at hj; exact hj)
 simp only [gN, List.getD_eq_getElem?_getD, List.getElem?_eq_getElem hi, List.getElem?_eq_getElem hj] at this
 exact this

theorem aEU {d s : List Int} (hl : d.length < 2305843009213693951) (hp : s.Perm d) (hs : s.Pairwise (· ≤ ·)) : nT d = some s := by
 obtain ⟨d', e, p, q⟩ := aEP hl
 rw [e]
 congr 1
 exact (p.trans hp.symm).eq_of_pairwise (le := (· ≤ ·)) (fun a b _ _ h1 h2 => Int.le_antisymm h1 h2) q hs

end Go.Abs
namespace Go.Abs
open Go
def lI (frm : Int) (l : List aC) (c : List Int) : List Int := l.foldl (fun c e => if frm < e.At then sW e.At c else c) c

def AM (frm : Int) (l : List aC) (m : List (Int × Int)) : List (Int × Int) := l.foldl (fun m e => if frm < e.At then wK m e.At 1 else m) m

def sO (l : List aC) (frm : Int) : List Int × Int :=
 if !nF l then ([], 2) else if !EL l then ([], 20) else if frm < 0 ∨ 1125899906842624 < frm then ([], 13) else if frm = 1125899906842624 then ([], 0) else (lI frm l [frm], 0)

theorem KO {k v : Int} : ∀ {m : List (Int × Int)}, k ∈ m.map (·.1) → (wK m k v).map (·.1) = m.map (·.1)
 | [], h => by simp at h
 | p :: m, h => by
  by_cases hp : p.1 = k
  ·simp [wK, hp]
  ·simp only [List.map_cons, List.mem_cons] at h
   rcases h with h | h
   ·exact absurd h.symm hp
   ·simp only [wK, hp, if_false, List.map_cons, KO h]

theorem UO {k v : Int} {m : List (Int × Int)} (h : k ∉ m.map (·.1)) : (wK m k v).map (·.1) = m.map (·.1) ++ [k] := by
 rw [PB fun p hp e => h (List.mem_map.2 ⟨p, hp, e⟩)]; simp

theorem QF {t : Int} : ∀ {ps : List Int}, t ∉ ps → (sW t ps).Perm (t :: ps)
 | [], _ => List.Perm.refl _
 | p :: r, h => by
  simp only [List.mem_cons, not_or] at h
  unfold sW
  rw [if_neg (fun e => h.1 e.symm)]
  split
  ·exact List.Perm.refl _
  ·exact (List.Perm.cons p (QF h.2)).trans (List.Perm.swap ..)

theorem GZ {frm : Int} : ∀ {l : List aC} {c : List Int} {m : List (Int × Int)}, (∀ e ∈ l, e.At < 1125899906842624) → Inc (frm - 1) c → (m.map (·.1)).Perm c →
  ((AM frm l m).map (·.1)).Perm (lI frm l c) ∧ Inc (frm - 1) (lI frm l c)
 | [], _, _, _, hi, hp => ⟨hp, hi⟩
 | e :: l, c, m, he, hi, hp => by
  have hl : ∀ e ∈ l, e.At < 1125899906842624 := fun q hq => he q (List.mem_cons_of_mem _ hq)
  by_cases h : frm < e.At
  ·have e1 : AM frm (e :: l) m = AM frm l (wK m e.At 1) := by simp [AM, h]
   have e2 : lI frm (e :: l) c = lI frm l (sW e.At c) := by simp [lI, h]
   rw [e1, e2]
   refine GZ hl (ML hi (by omega) (he e (by simp))) ?_
   by_cases hm : e.At ∈ m.map (·.1)
   ·rw [KO hm, PO hi (hp.mem_iff.1 hm)]; exact hp
   ·rw [UO hm]
    exact ((List.perm_append_comm).trans (List.Perm.cons _ hp)).trans (QF fun hc => hm (hp.mem_iff.2 hc)).symm
  ·have e1 : AM frm (e :: l) m = AM frm l m := by simp [AM, h]
   have e2 : lI frm (e :: l) c = lI frm l c := by simp [lI, h]
   rw [e1, e2]
   exact GZ hl hi hp

theorem GQ {frm : Int} : ∀ {l : List aC} {c : List Int}, (lI frm l c).length ≤ c.length + l.length
 | [], c => by simp [lI]
 | e :: l, c => by
  by_cases h : frm < e.At
  ·have e2 : lI frm (e :: l) c = lI frm l (sW e.At c) := by simp [lI, h]
   rw [e2]
   have h1 := GQ (frm := frm) (l := l) (c := sW e.At c)
   have h2 := TU (t := e.At) (ps := c)
   simp only [List.length_cons]; omega
  ·have e2 : lI frm (e :: l) c = lI frm l c := by simp [lI, h]
   rw [e2]
   have h1 := GQ (frm := frm) (l := l) (c := c)
   simp only [List.length_cons]; omega

theorem GX {frm x : Int} : ∀ {l : List aC} {c : List Int}, x ∈ lI frm l c ↔ x ∈ c ∨ ∃ e ∈ l, e.At = x ∧ frm < x
 | [], c => by simp [lI]
 | e :: l, c => by
  by_cases h : frm < e.At
  ·have e2 : lI frm (e :: l) c = lI frm l (sW e.At c) := by simp [lI, h]
   rw [e2, GX, LX]
   constructor
   ·rintro ((h1 | h1) | ⟨q, h1, h2⟩)
    ·exact .inr ⟨e, by simp, h1.symm, by omega⟩
    ·exact .inl h1
    ·exact .inr ⟨q, by simp [h1], h2⟩
   ·rintro (h1 | ⟨q, h1, h2, h3⟩)
    ·exact .inl (.inr h1)
    ·rcases List.mem_cons.1 h1 with rfl | h1
     ·exact .inl (.inl h2.symm)
     ·exact .inr ⟨q, h1, h2, h3⟩
  ·have e2 : lI frm (e :: l) c = lI frm l c := by simp [lI, h]
   rw [e2, GX]
   constructor
   ·rintro (h1 | ⟨q, h1, h2⟩)
    ·exact .inl h1
    ·exact .inr ⟨q, by simp [h1], h2⟩
   ·rintro (h1 | ⟨q, h1, h2, h3⟩)
    ·exact .inl h1
    ·rcases List.mem_cons.1 h1 with rfl | h1
     ·exact absurd (h2 ▸ h3) h
     ·exact .inr ⟨q, h1, h2, h3⟩

theorem PC : ∀ {ps : List Int} {last : Int}, Inc last ps → ps.Pairwise (· < ·)
 | [], _, _ => List.Pairwise.nil
 | p :: r, last, h => List.Pairwise.cons (fun x hx => (h.2.above x hx).1) (PC h.2)

theorem aFa {ps : List Int} {last : Int} (h : Inc last ps) : ps.Pairwise (· ≤ ·) := (PC h).imp fun h => by omega

theorem aAg {frm : Int} {l : List aC} (hl : l.length ≤ 1000000) (m : List (Int × Int)) : lp (fun s : List (Int × Int) × Int => sR frm l ((l.length : Nat) : Int) s.1 s.2) (m, 0) = some (AM frm l m) := by
 refine BP (l := l) (body := fun s : List (Int × Int) × Int => sR frm l ((l.length : Nat) : Int) s.1 s.2) (fun (s : List (Int × Int)) i => (s, i)) (fun s r => AM frm r s) (fun _ _ => True) m ?_ ?_ trivial
 ·intro i a r s ha _
  left
  obtain ⟨d1, d2, d3, d4⟩ := idx ha (by omega)
  by_cases h : frm < a.At
  ·refine ⟨wK s a.At 1, ?_, trivial, by simp [AM, h]⟩
   simp only [sR, vT, d1, cond_true, aQ d2, d3, d4, h, decide_true]
  ·refine ⟨s, ?_, trivial, by simp [AM, h]⟩
   simp only [sR, vT, d1, cond_true, aQ d2, d3, d4, h, decide_false, cond_false]
 ·intro s _
  simp only [sR, mY, cond_false]; rfl

theorem TB {m : List (Int × Int)} : ∀ {q : List (Int × Int)} {out : List Int}, out.length + q.length ≤ 1000000 → vI (fun (s : List Int) (x : Int × Int) => vM m s x.1 x.2) out q = some (out ++ q.map (·.1))
 | [], out, _ => by simp [vI]
 | x :: q, out, h => by
  simp only [List.length_cons] at h
  have e1 : vM m out x.1 x.2 = some (out ++ [x.1]) := by
   unfold vM
   rw [aQ (by simp only [List.length_cons, List.length_nil]; omega)]
  simp only [vI, e1, Option.bind_some]
  rw [TB (by simp only [List.length_append, List.length_cons, List.length_nil]; omega)]
  simp

theorem NQ {l : List aC} (hl : okL l) (frm : Int) : xP l frm = some (sO l frm) := by
 unfold xP sO
 rw [HW hl, Option.bind_some]
 cases hm : nF l with
 | false => simp
 | true =>
  simp only [Bool.not_true, cond_false, Bool.false_eq_true, if_false, aCz hl, Option.bind_some]
  cases ht : EL l with
  | false => simp
  | true =>
   simp only [Bool.not_true, cond_false, Bool.false_eq_true, if_false]
   by_cases h1 : frm < 0 ∨ 1125899906842624 < frm
   ·have : (decide (frm < 0) || decide (1125899906842624 < frm)) = true := by simpa using h1
    rw [this, cond_true, if_pos h1]
   ·have : (decide (frm < 0) || decide (1125899906842624 < frm)) = false := by simpa using h1
    rw [this, cond_false, if_neg h1]
    by_cases h2 : frm = 1125899906842624
    ·simp [h2]
    ·rw [decide_eq_false h2, cond_false, if_neg h2]
     have hn := (rM hm).1
     have hat : ∀ e ∈ l, e.At < 1125899906842624 := fun e he => (FB hm he).2.2.1
     obtain ⟨p1, p2⟩ := GZ (frm := frm) (l := l) (c := [frm]) (m := [(frm, 1)]) hat ⟨⟨by omega, by omega⟩, trivial⟩ (List.Perm.refl _)
     have hcl := GQ (frm := frm) (l := l) (c := [frm])
     have hsl : (AM frm l [(frm, 1)]).length = (lI frm l [frm]).length := by have := p1.length_eq; simpa using this
     simp only [List.length_cons, List.length_nil] at hcl
     have e0 : wK ([] : List (Int × Int)) frm 1 = [(frm, 1)] := rfl
     rw [e0]
     unfold CN
     rw [aAg (by omega), Option.bind_some]
     unfold yZ
     rw [aQ (by omega)]
     unfold CQ
     refine aBT fun q hq => ?_
     rw [TB (by have := hq.length_eq; simp only [List.length_nil]; omega), Option.bind_some, List.nil_append]
     unfold CH CU
     have hp : (lI frm l [frm]).Perm (q.map (·.1)) := ((hq.map (·.1)).trans p1).symm
     rw [aEU (s := lI frm l [frm]) (by have := hp.length_eq; omega) hp (aFa p2)]
     rfl

theorem BK {l : List aC} {frm : Int} (h : (sO l frm).2 = 0) : nF l = true ∧ EL l = true ∧ 0 ≤ frm ∧ ((frm = 1125899906842624 ∧ (sO l frm).1 = []) ∨ (frm < 1125899906842624 ∧ (sO l frm).1 = lI frm l [frm])) := by
 unfold sO at h ⊢
 cases hm : nF l with
 | false => simp [hm] at h
 | true =>
  cases ht : EL l with
  | false => simp [hm, ht] at h
  | true =>
   by_cases h1 : frm < 0 ∨ 1125899906842624 < frm
   ·simp [hm, ht, h1] at h
   ·by_cases h2 : frm = 1125899906842624
    ·subst h2; simp
    ·simp only [hm, ht, h1, h2, Bool.not_true, Bool.false_eq_true, if_false, true_and, false_and, false_or, and_true]
     omega

theorem aCo {l : List aC} {frm : Int} (h : (sO l frm).2 ≠ 0) : (sO l frm).1 = [] := by
 unfold sO at h ⊢
 split
 ·rfl
 ·split
  ·rfl
  ·split
   ·rfl
   ·split
    ·rfl
    ·rename_i h1 h2 h3 h4; simp [h1, h2, h3, h4] at h

theorem SP {l : List aC} {frm : Int} : Inc (frm - 1) (sO l frm).1 ∧ (sO l frm).1.length ≤ 4097 := by
 by_cases h : (sO l frm).2 = 0
 ·obtain ⟨hm, _, _, ⟨_, h2⟩ | ⟨h1, h2⟩⟩ := BK h
  ·rw [h2]; exact ⟨trivial, by simp⟩
  ·rw [h2]
   refine ⟨(GZ (frm := frm) (l := l) (c := [frm]) (m := [(frm, 1)]) (fun e he => (FB hm he).2.2.1) ⟨⟨by omega, h1⟩, trivial⟩ (List.Perm.refl _)).2, ?_⟩
   have h4 := (rM hm).1
   have h3 := GQ (frm := frm) (l := l) (c := [frm])
   simp only [List.length_cons, List.length_nil] at h3
   omega
 ·rw [aCo h]; exact ⟨trivial, by simp⟩

end Go.Abs
namespace Go.Abs
open Go
def nL (t : Int) (gs : List (List aI × List aB)) : List cU := gs.filterMap fun g => if 0 < val g.2 t then some ⟨g.1, val g.2 t⟩ else none

def nI (al : Int → List cU) : List Int → List bX
 | [] => []
 | t :: cs => (if al t = [] then [] else [⟨⟨t, cs.headD 1125899906842624⟩, al t⟩]) ++ nI al cs

def aBt (x : List bX) : List bX × Int := if 1024 < x.length then ([], 7) else (x, 0)

def qQ (l : List aC) (frm : Int) : List bX × Int := if (sO l frm).2 ≠ 0 then ([], (sO l frm).2) else aBt (nI (fun t => nL t (groups l)) (sO l frm).1)

theorem NT (t : Int) (g : List aI × List aB) (gs : List (List aI × List aB)) : nL t (g :: gs) = (if 0 < val g.2 t then [⟨g.1, val g.2 t⟩] else []) ++ nL t gs := by
 unfold nL
 rw [List.filterMap_cons]
 by_cases h : 0 < val g.2 t <;> simp [h]

theorem aA2 (t : Int) (gs : List (List aI × List aB)) : (nL t gs).length ≤ gs.length := List.length_filterMap_le ..

theorem aAc {r : List aI} (h : r.length ≤ 4398046510976) : iY r = some r := by
 unfold iY
 rw [aQ (by omega)]

theorem XY {gs : List (List aI × List aB)} (hg : ∀ g ∈ gs, iR g.2 = true ∧ g.1.length ≤ 4398046510976) (hn : gs.length ≤ 1000000) (t : Int) : vP t (gs.map fun g => ⟨g.1, g.2⟩) = some (nL t gs) := by
 unfold vP xW
 rw [List.length_map]
 have key := BP (l := gs) (body := fun s : List cU × Int => rD t (gs.map fun g => ⟨g.1, g.2⟩) ((gs.length : Nat) : Int) s.1 s.2) (fun (s : List cU) i => (s, i)) (fun s r => s ++ nL t r)
  (fun s r => s.length + r.length ≤ 1000000 ∧ ∀ g ∈ r, iR g.2 = true ∧ g.1.length ≤ 4398046510976) [] ?_ ?_ ⟨by simpa using hn, hg⟩
 ·rw [key]; rfl
 ·rintro i a r s ha ⟨hs, hr⟩
  left
  simp only [List.length_cons] at hs
  have ha' : (gs.map fun g => (⟨g.1, g.2⟩ : bZ))[i]? = some ⟨a.1, a.2⟩ := by rw [List.getElem?_map, ha]; rfl
  obtain ⟨d1, d2, d3, d4⟩ := idx ha' (by rw [List.length_map]; omega)
  rw [List.length_map] at d1
  obtain ⟨m1, m2⟩ := hr a (by simp)
  have hr' : ∀ g ∈ r, iR g.2 = true ∧ g.1.length ≤ 4398046510976 := fun g hg => hr g (by simp [hg])
  rw [NT]
  by_cases h : 0 < val a.2 t
  ·refine ⟨s ++ [⟨a.1, val a.2 t⟩], ?_, ⟨by simp only [List.length_append, List.length_cons, List.length_nil]; omega, hr'⟩, by simp [h]⟩
   simp only [rD, tA, d1, cond_true, aQ d2, d3, d4, aEy, m1, if_true, Option.bind_some, h, decide_true, aAc m2]
   rw [aQ (by simp only [List.length_cons, List.length_nil]; omega)]
  ·refine ⟨s, ?_, ⟨by omega, hr'⟩, by simp [h]⟩
   simp only [rD, tA, d1, cond_true, aQ d2, d3, d4, aEy, m1, if_true, Option.bind_some, h, decide_false, cond_false]
 ·rintro s _
  simp only [rD, mY, cond_false]
  simp [nL]

theorem aDE {cs r : List Int} {t : Int} {i : Nat} (hd : cs.drop i = t :: r) (d : Int) : (cs[i + 1]?).getD d = r.headD d := by
 have := (drop_cons hd).2
 rw [← List.head?_drop, this]
 cases r <;> rfl

theorem VY {cuts : List Int} {gs : List (List aI × List aB)} (hc : cuts.length ≤ 1000000) (hg : ∀ g ∈ gs, iR g.2 = true ∧ g.1.length ≤ 4398046510976) (hn : gs.length ≤ 1000000) :
  lp (fun s : List bX × Int => rT cuts (gs.map fun g => ⟨g.1, g.2⟩) cuts ((cuts.length : Nat) : Int) s.1 s.2) ([], 0) = some (if 1024 < (nI (fun t => nL t gs) cuts).length then .inr ([], 7) else .inl (nI (fun t => nL t gs) cuts)) := by
 let al := fun t => nL t gs
 have key : ∀ (r : List Int) (k : Nat) (s : List bX), cuts.drop k = r → k ≤ cuts.length → s.length ≤ 1024 →
   lp (fun s : List bX × Int => rT cuts (gs.map fun g => ⟨g.1, g.2⟩) cuts ((cuts.length : Nat) : Int) s.1 s.2) (s, (k : Int)) = some (if 1024 < (s ++ nI al r).length then .inr ([], 7) else .inl (s ++ nI al r)) := by
  intro r
  induction r with
  | nil =>
   intro k s hd hk hs
   have : k = cuts.length := by
    have := congrArg List.length hd
    simp only [List.length_drop, List.length_nil] at this; omega
   subst this
   refine cE ?_
   simp only [rT, mY, cond_false, nI, List.append_nil]
   rw [if_neg (by omega)]
  | cons t r ih =>
   intro k s hd hk hs
   obtain ⟨h1, h2⟩ := drop_cons hd
   obtain ⟨d1, d2, d3, d4⟩ := idx h1 (by omega)
   have hlt : k < cuts.length := (List.getElem?_eq_some_iff.1 h1).1
   have hb : rT cuts (gs.map fun g => ⟨g.1, g.2⟩) cuts ((cuts.length : Nat) : Int) s (k : Int) =
     some (if al t = [] then .inl (s, ((k + 1 : Nat) : Int)) else if s.length = 1024 then .inr (.inr ([], 7)) else .inl (s ++ [⟨⟨t, r.headD 1125899906842624⟩, al t⟩], ((k + 1 : Nat) : Int))) := by
    simp only [rT, wY, xH, d1, cond_true, aQ d2, d3, d4, XY hg hn, Option.bind_some]
    by_cases ha : nL t gs = []
    ·simp [al, ha]
    ·have ha1 : decide (((nL t gs).length : Int) = 0) = false := by
      rw [decide_eq_false_iff_not]; intro e
      exact ha (List.length_eq_zero_iff.1 (by omega))
     rw [ha1, cond_false, if_neg (show ¬ al t = [] from ha)]
     by_cases hs1 : s.length = 1024
     ·rw [if_pos hs1, decide_eq_true (by omega), cond_true]
     ·rw [if_neg hs1, decide_eq_false (by omega), cond_false]
      have hh := aDE hd 1125899906842624
      by_cases hk1 : k + 1 < cuts.length
      ·rw [decide_eq_true (by omega), cond_true, aQ (by omega), aQ (by simp only [List.length_cons, List.length_nil]; omega)]
       have : List.getD cuts (Int.toNat ((k + 1 : Nat) : Int)) default = r.headD 1125899906842624 := by
        rw [← hh, Int.toNat_natCast, List.getD_eq_getElem?_getD, List.getElem?_eq_getElem hk1]; rfl
       rw [this]
      ·rw [decide_eq_false (by omega), cond_false, aQ (by simp only [List.length_cons, List.length_nil]; omega)]
       have : r.headD 1125899906842624 = 1125899906842624 := by
        rw [← hh, List.getElem?_eq_none (by omega)]; rfl
       rw [this]
   by_cases ha : al t = []
   ·rw [if_pos ha] at hb
    rw [dO hb, ih (k + 1) s h2 (by omega) hs]
    simp [nI, ha]
   ·rw [if_neg ha] at hb
    by_cases hs1 : s.length = 1024
    ·rw [if_pos hs1] at hb
     rw [cE hb, if_pos]
     simp [nI, ha]; omega
    ·rw [if_neg hs1] at hb
     rw [dO hb, ih (k + 1) _ h2 (by omega) (by simp only [List.length_append, List.length_cons, List.length_nil]; omega)]
     simp [nI, ha]
 exact key cuts 0 [] rfl (by omega) (by simp)

theorem RI (c0 : List Int) (c : List aC) : ∀ (gs : List (List aI × List aB)) (out : List bZ), out.length + gs.length ≤ 1000000 →
  itG (fun st t29 t30 => rnd (fun (s : List bZ) => rV c0 c s t29 t30) st) gs (.inl out : List bZ ⊕ List bZ) = some (.inl (out ++ gs.map fun g => ⟨g.1, g.2⟩))
 | [], out, _ => by simp [itG]
 | g :: gs, out, h => by
  simp only [List.length_cons] at h
  have e1 : rV c0 c out g.1 g.2 = some (.inl (out ++ [⟨g.1, g.2⟩])) := by
   unfold rV
   rw [aQ (by simp only [List.length_cons, List.length_nil]; omega)]
  have e2 : rnd (fun (s : List bZ) => rV c0 c s g.1 g.2) (.inl out : List bZ ⊕ List bZ) = some (.inl (out ++ [⟨g.1, g.2⟩]), true) := by
   simp only [rnd, e1, Option.bind_some]; rfl
  unfold itG
  rw [e2]
  simp only [Option.bind_some, if_true]
  rw [RI c0 c gs _ (by simp only [List.length_append, List.length_cons, List.length_nil]; omega)]
  simp

theorem RC {l : List aC} (hl : okL l) (hm : nF l = true) : (∀ g ∈ groups l, iR g.2 = true ∧ g.1.length ≤ 4398046510976) ∧ (groups l).length ≤ 4096 := by
 obtain ⟨h1, h2, _⟩ := rM hm
 exact ⟨fun g hg => ⟨(h2 g hg).2, GP hl hg⟩, by have := aBA l; omega⟩

theorem MO {l : List aC} (hl : okL l) (frm : Int) : vQ l frm = some (qQ l frm) := by
 unfold vQ qQ
 rw [NQ hl, Option.bind_some]
 by_cases h : (sO l frm).2 = 0
 ·rw [if_neg (by simpa using h), decide_eq_true h, Bool.not_true, cond_false]
  have hm := (BK h).1
  obtain ⟨g1, g2⟩ := RC hl hm
  have hc := (SP (l := l) (frm := frm)).2
  unfold AT
  rw [Option.bind_some]
  unfold AR
  rw [aBn hl (s' := .inl ([] ++ (groups l).map fun g => (⟨g.1, g.2⟩ : bZ))) (by rw [hm, if_pos rfl]; exact RI _ _ _ _ (by simp; omega)), Option.bind_some, Sum.elim_inl, List.nil_append]
  unfold xB
  rw [VY (by omega) g1 (by omega)]
  unfold aBt
  split <;> rfl
 ·rw [if_pos h, decide_eq_false h]; rfl

end Go.Abs
namespace Go.Abs
open Go
theorem FE {al : Int → List cU} {p : bX} : ∀ {cs : List Int}, p ∈ nI al cs → ∃ t ∈ cs, p.Rows = al t ∧ p.Span.From = t
 | [], h => by simp [nI] at h
 | t :: cs, h => by
  unfold nI at h
  rcases List.mem_append.1 h with h | h
  ·split at h
   ·simp at h
   ·simp at h; subst h; exact ⟨t, by simp, rfl, rfl⟩
  ·obtain ⟨t', h1, h2⟩ := FE h
   exact ⟨t', by simp [h1], h2⟩

def MS : aI := ⟨1, 1, ByteArray.empty⟩

def VF : aI := ⟨1, 2, ByteArray.empty⟩

def l27 : List aC := [⟨[MS], 2, 1⟩, ⟨[MS], 9, -1⟩, ⟨[VF], 5, 1⟩, ⟨[VF], 7, -1⟩]

theorem aDd : okL l27 := ⟨by decide, by decide⟩

theorem aF4 : sO l27 0 = ([0, 2, 5, 7, 9], 0) := by decide +kernel

theorem aFm : qQ l27 0 = ([⟨⟨2, 5⟩, [⟨[MS], 1⟩]⟩, ⟨⟨5, 7⟩, [⟨[MS], 1⟩, ⟨[VF], 1⟩]⟩, ⟨⟨7, 9⟩, [⟨[MS], 1⟩]⟩], 0) := by decide +kernel

theorem HC : sS = some true := by
 unfold sS
 have h1 := NQ aDd 0
 have h2 := MO aDd 0
 rw [aF4] at h1
 rw [aFm] at h2
 simp only [l27, MS, VF] at h1 h2
 rw [h1, Option.bind_some, h2, Option.bind_some, aQ (fun _ => by decide), aQ (fun _ => by decide), aQ (fun _ => by decide)]
 rfl

theorem aEq (l : List aC) : DS l = some (decide (((l.length : Nat) : Int) ≤ 60)) := rfl

end Go.Abs
namespace Go.Abs
open Go
def atT (t : Int) (p : bX) : Bool := decide (p.Span.From ≤ t) && decide (t < p.Span.To)

theorem HQ {α β : Type} {f g : α → Option β} : ∀ {l : List α}, (∀ x ∈ l, f x = g x) → l.filterMap f = l.filterMap g
 | [], _ => rfl
 | x :: l, h => by
  rw [List.filterMap_cons, List.filterMap_cons, h x (by simp), HQ fun y hy => h y (by simp [hy])]

theorem aBb {l : List aC} {d t : Int} (hdt : d ≤ t) (h : ∀ e ∈ l, ¬ (d < e.At ∧ e.At ≤ t)) : nL d (groups l) = nL t (groups l) := by
 have key : ∀ g ∈ groups l, val g.2 d = val g.2 t := by
  intro g hg
  have hj : ∀ j ∈ g.2, ¬ (d < j.At ∧ j.At ≤ t) := by
   intro j hj
   have hm : (⟨g.1, j.At, j.Net⟩ : aC) ∈ flat (groups l) := List.mem_flatMap.2 ⟨g, hg, List.mem_map.2 ⟨j, hj, rfl⟩⟩
   rw [xN] at hm
   exact h _ hm
  exact HD hdt hj
 unfold nL
 refine HQ fun g hg => ?_
 rw [key g hg]

theorem aDJ {frm : Int} {l : List aC} (hi : Inc (frm - 1) (lI frm l [frm])) : ∃ cs, lI frm l [frm] = frm :: cs := by
 have hm : frm ∈ lI frm l [frm] := GX.2 (.inl (by simp))
 cases hc : lI frm l [frm] with
 | nil => rw [hc] at hm; simp at hm
 | cons c cs =>
  rw [hc] at hm hi
  rcases List.mem_cons.1 hm with h | h
  ·exact ⟨cs, by rw [h]⟩
  ·have := (hi.2.above frm h).1
   have := hi.1
   omega

theorem aA0 {l : List aC} {frm : Int} (h : (qQ l frm).2 ≠ 0) : (qQ l frm).1 = [] := by
 unfold qQ aBt at h ⊢
 split
 ·rfl
 ·split
  ·rfl
  ·rename_i h1 h2; simp [h1, h2] at h

theorem SS {l : List aC} {frm : Int} (h : (qQ l frm).2 = 0) : (sO l frm).2 = 0 ∧ (qQ l frm).1 = nI (fun t => nL t (groups l)) (sO l frm).1 ∧ (qQ l frm).1.length ≤ 1024 := by
 unfold qQ aBt at h ⊢
 by_cases h1 : (sO l frm).2 = 0
 ·rw [if_neg (by simpa using h1)] at h ⊢
  by_cases h2 : 1024 < (nI (fun t => nL t (groups l)) (sO l frm).1).length
  ·rw [if_pos h2] at h; simp at h
  ·rw [if_neg h2]; exact ⟨h1, rfl, by simp only; omega⟩
 ·rw [if_pos h1] at h; exact absurd h h1

end Go.Abs
namespace Go.Abs
open Go
theorem YU {f : List aB} {t : Int} (hf : iR f = true) (ht : t < 1125899906842624) (h : (ahead f t).2 = 0) : (ahead f t).1 = HZ t f := by
 unfold ahead at h ⊢
 rw [if_pos hf, if_neg (by omega)] at h ⊢
 unfold told at h ⊢
 split at h
 ·rename_i c; rw [if_pos c]
 ·simp at h

theorem uW {l : List aC} (h : nF l = true) (r : List aI) : look (groups l) r = dH l r := tM (rM h).2.2 r

theorem aDO {by1 : List aB → List aB × Int} {l : List aC} (hb : ∀ f, iR f = true → (by1 f).2 = 0 → iR (by1 f).1 = true) (h : (BJ by1 l).2 = 0) : nF (BJ by1 l).1 = true := by
 obtain ⟨h1, h2, h3, h4⟩ := HR h
 obtain ⟨_, g1, g2⟩ := rM h1
 rw [h3] at h4 ⊢
 refine TN (JL g2) (fun g hg => ?_) h4
 obtain ⟨q, hq, rfl⟩ := List.mem_map.1 hg
 exact ⟨(g1 q hq).1, hb _ (g1 q hq).2 (h2 q hq)⟩

theorem aEQ {f : List aB} (h : (told f).2 = 0) : iR (told f).1 = true := by
 unfold told at h ⊢
 split at h
 ·rename_i c; rw [if_pos c]; exact c
 ·simp at h

theorem aCS {f : List aB} {t : Int} (hf : iR f = true) (h : (ahead f t).2 = 0) : iR (ahead f t).1 = true := by
 unfold ahead at h ⊢
 rw [if_pos hf] at h ⊢
 split
 ·exact hf
 ·rename_i c; rw [if_neg c] at h; exact aEQ h

theorem PY {l : List aC} {t : Int} (h : (yY l t).2 = 0) : nF (yY l t).1 = true := aDO (fun _ a b => aCS a b) h

theorem YF {l : List aC} {t : Int} (h0 : 0 ≤ t) (ht : t < 1125899906842624) (h : (yY l t).2 = 0) (r : List aI) : dH (yY l t).1 r = HZ t (dH l r) := by
 have hm := (HR h).1
 have h1 := aCD (by1 := fun f => ahead f t) (by rw [LP h0]) h r
 have h2 := YR (by1 := fun f => ahead f t) (by rw [LP h0]) h r
 rw [uW hm] at h1 h2
 have := uW (PY h) r
 unfold yY at this ⊢
 rw [← this, h1, YU (FF hm r) ht h2]

theorem YC {a b : List aC} (ha : nF a = true) (hb : nF b = true) (h : ∀ r t, -2 < t → t < 1125899906842624 → val (dH a r) t = val (dH b r) t) : a = b :=
 aDF ha hb fun r => by
  rw [uW ha, uW hb]
  exact (aCv (FF ha r)).ext (aCv (FF hb r)) fun t h1 h2 => h r t h1 h2

end Go.Abs
namespace Go.Abs
open Go
def uV (s : lP) (cs : List cU) : List aC := cs.flatMap fun c => [⟨c.Row, s.From, c.N⟩, ⟨c.Row, s.To, -c.N⟩]

def tL (ps : List bX) : List aC := ps.flatMap fun p => uV p.Span p.Rows

def wH (r : List aI) (cs : List cU) : Int := (cs.map fun c => if c.Row = r then c.N else 0).sum

def BE (r : List aI) (t : Int) (ps : List bX) : Int := (ps.map fun p => if atT t p then wH r p.Rows else 0).sum

theorem TY (r : List aI) (t : Int) (p : bX) (ps : List bX) : BE r t (p :: ps) = (if atT t p then wH r p.Rows else 0) + BE r t ps := by simp [BE]

theorem NO (r : List aI) (t : Int) (a b : List bX) : BE r t (a ++ b) = BE r t a + BE r t b := by simp [BE]

theorem GS {r : List aI} {t : Int} : ∀ {ps : List bX}, (∀ p ∈ ps, atT t p = false) → BE r t ps = 0
 | [], _ => rfl
 | p :: ps, h => by
  rw [TY, h p (by simp), GS fun q hq => h q (by simp [hq])]; rfl

theorem UB {r : List aI} {s : lP} (hs : s.From ≤ s.To) (t : Int) : ∀ cs : List cU, val (dH (uV s cs) r) t = if decide (s.From ≤ t) && decide (t < s.To) then wH r cs else 0
 | [] => by simp [uV, wH, dH, val]
 | c :: cs => by
  have e : uV s (c :: cs) = [⟨c.Row, s.From, c.N⟩, ⟨c.Row, s.To, -c.N⟩] ++ uV s cs := by simp [uV]
  rw [e, vU, uZ, UB hs t cs]
  have e2 : wH r (c :: cs) = (if c.Row = r then c.N else 0) + wH r cs := by simp [wH]
  rw [e2]
  by_cases hr : c.Row = r
  ·have e3 : dH [⟨c.Row, s.From, c.N⟩, ⟨c.Row, s.To, -c.N⟩] r = [⟨s.From, c.N⟩, ⟨s.To, -c.N⟩] := by simp [dH, hr, jE]
   rw [e3, eE, eE, tZ, if_pos hr]
   simp only
   by_cases h1 : s.From ≤ t
   ·by_cases h2 : t < s.To
    ·simp [h1, h2]; omega
    ·simp [h1, h2]; omega
   ·have : ¬ s.To ≤ t := by omega
    simp [h1, this]
  ·have e3 : dH [⟨c.Row, s.From, c.N⟩, ⟨c.Row, s.To, -c.N⟩] r = [] := by simp [dH, hr]
   rw [e3, tZ, if_neg hr]
   simp

theorem TZ {r : List aI} (t : Int) : ∀ {ps : List bX}, (∀ p ∈ ps, p.Span.From ≤ p.Span.To) → val (dH (tL ps) r) t = BE r t ps
 | [], _ => by simp [tL, BE, dH, val]
 | p :: ps, h => by
  have e : tL (p :: ps) = uV p.Span p.Rows ++ tL ps := by simp [tL]
  rw [e, vU, uZ, UB (h p (by simp)), TZ t fun q hq => h q (by simp [hq]), TY]
  rfl

theorem TP {al : Int → List cU} {t : Int} {r : List aI} (ht : t < 1125899906842624) : ∀ (cs : List Int) (c : Int), (c :: cs).Pairwise (· < ·) → c ≤ t →
  ∃ d ∈ c :: cs, d ≤ t ∧ (∀ x ∈ c :: cs, x ≤ t → x ≤ d) ∧ BE r t (nI al (c :: cs)) = wH r (al d)
 | [], c, _, hc => by
  refine ⟨c, by simp, hc, fun x hx _ => by simp at hx; omega, ?_⟩
  by_cases ha : al c = []
  ·simp [nI, ha, BE, wH]
  ·simp [nI, ha, BE, atT, hc, ht]
 | c2 :: cs, c, hp, hc => by
  obtain ⟨h1, h2⟩ := List.pairwise_cons.1 hp
  have hcc : c < c2 := h1 c2 (by simp)
  have e : nI al (c :: c2 :: cs) = (if al c = [] then [] else [⟨⟨c, c2⟩, al c⟩]) ++ nI al (c2 :: cs) := rfl
  by_cases h : c2 ≤ t
  ·obtain ⟨d, g1, g2, g3, g4⟩ := TP ht cs c2 h2 h
   refine ⟨d, by simp [g1], g2, fun x hx hxt => ?_, ?_⟩
   ·rcases List.mem_cons.1 hx with rfl | hx
    ·have := g3 c2 (by simp) h; omega
    ·exact g3 x hx hxt
   ·rw [e, NO, g4, GS, Int.zero_add]
    intro p hp'
    split at hp'
    ·simp at hp'
    ·simp at hp'; subst hp'
     simp only [atT, Bool.and_eq_false_iff, decide_eq_false_iff_not]; right; omega
  ·refine ⟨c, by simp, hc, fun x hx hxt => ?_, ?_⟩
   ·rcases List.mem_cons.1 hx with rfl | hx
    ·omega
    ·exfalso
     rcases List.mem_cons.1 hx with rfl | hx
     ·omega
     ·have := (List.pairwise_cons.1 h2).1 x hx; omega
   ·rw [e, NO, GS (ps := nI al (c2 :: cs)), Int.add_zero]
    ·by_cases ha : al c = []
     ·simp [ha, BE, wH]
     ·have h' : t < c2 := by omega
      simp [ha, BE, atT, hc, h']
    ·intro p hp'
     obtain ⟨x, hx, _, hf⟩ := FE hp'
     have : c2 ≤ x := by
      rcases List.mem_cons.1 hx with rfl | hx
      ·omega
      ·have := (List.pairwise_cons.1 h2).1 x hx; omega
     simp only [atT, Bool.and_eq_false_iff, decide_eq_false_iff_not]; left; rw [hf]; omega

theorem aBR {gs : List (List aI × List aB)} (hs : wD gs) (hn : ∀ g ∈ gs, ∀ t, 0 ≤ val g.2 t) (r : List aI) (t : Int) : wH r (nL t gs) = val (look gs r) t := by
 induction gs with
 | nil => rfl
 | cons g gs ih =>
  obtain ⟨h1, h2⟩ := List.pairwise_cons.1 hs
  have hn' : ∀ g ∈ gs, ∀ t, 0 ≤ val g.2 t := fun q hq => hn q (by simp [hq])
  have ih := ih h2 hn'
  rw [NT, uY]
  have ea : ∀ a b : List cU, wH r (a ++ b) = wH r a + wH r b := fun a b => by simp [wH]
  rw [ea, ih]
  have h0 := hn g (by simp) t
  by_cases hr : g.1 = r
  ·have hl : look gs r = [] := zE fun q hq e => by
    have : nS g.1 q.1 < 0 := h1 q hq
    rw [hr, e] at this
    exact tC this
   rw [if_pos hr, hl, tZ]
   by_cases hv : 0 < val g.2 t
   ·rw [if_pos hv]; simp [wH, hr]
   ·rw [if_neg hv]; simp [wH]; omega
  ·rw [if_neg hr]
   by_cases hv : 0 < val g.2 t
   ·rw [if_pos hv]; simp [wH, hr]
   ·rw [if_neg hv]; simp [wH]

theorem NN {al : Int → List cU} : ∀ {cs : List Int} {last : Int}, Inc last cs → ∀ p ∈ nI al cs, p.Span.From ≤ p.Span.To
 | [], _, _, p, h => by simp [nI] at h
 | c :: cs, last, hi, p, h => by
  unfold nI at h
  rcases List.mem_append.1 h with h | h
  ·split at h
   ·simp at h
   ·simp at h; subst h
    cases cs with
    | nil => have := hi.1.2; simp; omega
    | cons c2 cs => have := hi.2.1.1; simp; omega
  ·exact NN hi.2 p h

theorem aDA {l : List aC} {frm : Int} (h : (qQ l frm).2 = 0) (hf : frm < 1125899906842624) (r : List aI) {t : Int} (h2 : t < 1125899906842624) :
  val (dH (tL (qQ l frm).1) r) t = if t < frm then 0 else val (dH l r) t := by
 obtain ⟨h1, e, _⟩ := SS h
 obtain ⟨hm, ht, _, ⟨hc, _⟩ | ⟨_, hcut⟩⟩ := BK h1
 ·omega
 have hi := (SP (l := l) (frm := frm)).1
 rw [TZ t (by rw [e]; exact NN hi), e]
 rw [hcut] at hi ⊢
 obtain ⟨cs, hcs⟩ := aDJ hi
 by_cases hlt : t < frm
 ·rw [if_pos hlt]
  refine GS fun p hp => ?_
  obtain ⟨x, hx, _, hfx⟩ := FE hp
  have := (hi.above x hx).1
  simp only [atT, Bool.and_eq_false_iff, decide_eq_false_iff_not]; left; rw [hfx]; omega
 ·rw [if_neg hlt]
  rw [hcs] at hi ⊢
  obtain ⟨d, q1, q2, q3, q4⟩ := TP (al := fun t => nL t (groups l)) (r := r) h2 cs frm (PC hi) (by omega)
  have hsame : nL d (groups l) = nL t (groups l) := by
   refine aBb q2 fun x hel hda => ?_
   have hd1 : frm ≤ d := q3 frm (by simp) (by omega)
   have : x.At ∈ frm :: cs := by
    rw [← hcs]; exact GX.2 (.inr ⟨x, hel, rfl, by omega⟩)
   have := q3 x.At this hda.2
   omega
  rw [q4, hsame]
  have hsg := (rM hm).2.2
  rw [aBR hsg (fun g hg t => ?_), tM hsg]
  have := (aBg.1 ht).2 g.1 t
  rwa [← tM hsg, DE hsg hg] at this

theorem TI {by1 : List aB → List aB × Int} : ∀ {gs : List (List aI × List aB)} {out : List aC}, (∀ g ∈ gs, (by1 g.2).2 = 0 ∨ (by1 g.2).2 = 7) → (uB by1 gs out).2 = 0 ∨ (uB by1 gs out).2 = 7
 | [], out, _ => by simp [uB]
 | g :: gs, out, h => by
  have ih := fun out => TI (gs := gs) (out := out) fun q hq => h q (by simp [hq])
  rcases h g (by simp) with h1 | h1
  ·unfold uB
   rw [if_neg (by simp [h1])]
   split
   ·exact .inr rfl
   ·exact ih _
  ·unfold uB
   rw [if_pos (by rw [h1]; decide)]
   exact .inr h1

end Go.Abs
namespace Go.Abs
open Go
theorem aFI {l : List aC} (m : ∀ a ∈ l, AK a) (y : List.length l * 40 ≤ 140737488351232) : okL l :=
 ⟨by omega, fun e he => by have := (m e he).1.2; omega⟩

end Go.Abs
namespace Go.Abs
open Go
theorem aEk {a b : List aC} (ha : nF a = true) (hb : nF b = true) : JD a b = nV (a ++ b) ∧ ((JD a b).2 = 0 ∨ (JD a b).2 = 7) := by
 have e : JD a b = nV (a ++ b) := by unfold JD; rw [ha, hb]; rfl
 refine ⟨e, ?_⟩
 rw [e]
 obtain ⟨u1, o1⟩ := aAG ha
 obtain ⟨u2, o2⟩ := aAG hb
 have hu : (a ++ b).any unE = false := by rw [List.any_append, u1, u2]; rfl
 have ho : (a ++ b).any FV = false := by rw [List.any_append, o1, o2]; rfl
 unfold nV
 rw [hu, ho]
 exact TI (aDw hu ho)

theorem KR : ∀ {ps : List bX} {n : Nat}, (∀ p ∈ ps, p.Rows.length ≤ n) → (tL ps).length ≤ 2 * n * ps.length
 | [], _, _ => by simp [tL]
 | p :: ps, n, h => by
  have e : tL (p :: ps) = uV p.Span p.Rows ++ tL ps := by simp [tL]
  have h1 := h p (by simp)
  have h2 := KR (ps := ps) (n := n) fun q hq => h q (by simp [hq])
  have h3 : (uV p.Span p.Rows).length = 2 * p.Rows.length := by
   unfold uV
   induction p.Rows with
   | nil => rfl
   | cons c cs ih => simp only [List.flatMap_cons, List.length_append, List.length_cons, List.length_nil, ih]; omega
  rw [e, List.length_append, h3, List.length_cons, Nat.mul_add]
  omega

theorem aCO {l : List aC} {frm : Int} {ps : List bX} {i : Nat} {p : bX} (hi : ps[i]? = some p) (hl : ps.length ≤ 1000000) (hn : ∀ c ∈ p.Rows, 0 ≤ c.N ∧ c.N ≤ 4611686018427387904) (out : List aC) (hb : out.length + 2 * p.Rows.length ≤ 1000000000) :
  lp (fun s : List aC × Int => pX l frm ps (i : Int) s.1 s.2) (out, 0) = some (out ++ uV p.Span p.Rows) := by
 obtain ⟨_, e2, e3, _⟩ := idx hi (by omega)
 refine BP (l := p.Rows) (body := fun s : List aC × Int => pX l frm ps (i : Int) s.1 s.2) (fun (s : List aC) i => (s, i)) (fun s r => s ++ uV p.Span r) (fun s r => s.length + 2 * r.length ≤ 1000000000 ∧ ∀ c ∈ r, 0 ≤ c.N ∧ c.N ≤ 4611686018427387904) out ?_ ?_ ⟨hb, hn⟩
 ·rintro k a r s ha ⟨hs, hr⟩
  left
  simp only [List.length_cons] at hs
  obtain ⟨d1, d2, d3, d4⟩ := idx ha (by omega)
  obtain ⟨n1, n2⟩ := hr a (by simp)
  refine ⟨s ++ [⟨a.Row, p.Span.From, a.N⟩] ++ [⟨a.Row, p.Span.To, -a.N⟩], ?_, ⟨by simp only [List.length_append, List.length_cons, List.length_nil]; omega, fun c hc => hr c (by simp [hc])⟩, by simp [uV]⟩
  have w : IntKind.i64.wrap (0 - a.N) = -a.N := by rw [fV (by omega) (by omega)]; omega
  simp only [pX, aQ e2, e3, d1, cond_true, aQ d2, d3, d4, w]
  rw [aQ (by simp only [List.length_cons, List.length_nil]; omega), aQ (by simp only [List.length_append, List.length_cons, List.length_nil]; omega)]
 ·rintro s _
  simp only [pX, aQ e2, e3, mY, cond_false]
  simp [uV]

theorem aEW {l : List aC} {frm : Int} {ps : List bX} (hl : ps.length ≤ 1024) (hn : ∀ p ∈ ps, p.Rows.length ≤ 4096 ∧ ∀ c ∈ p.Rows, 0 ≤ c.N ∧ c.N ≤ 4611686018427387904) :
  lp (fun s : List aC × Int => pY l frm ps s.1 s.2) ([], 0) = some (tL ps) := by
 have := BP (l := ps) (body := fun s : List aC × Int => pY l frm ps s.1 s.2) (fun (s : List aC) i => (s, i)) (fun s r => s ++ tL r) (fun s r => s.length + 8192 * r.length ≤ 100000000 ∧ ∀ p ∈ r, p.Rows.length ≤ 4096 ∧ ∀ c ∈ p.Rows, 0 ≤ c.N ∧ c.N ≤ 4611686018427387904) [] ?_ ?_ ⟨by simp only [List.length_nil]; omega, hn⟩
 ·rw [this]; simp
 ·rintro i p r s hp ⟨hs, hr⟩
  left
  simp only [List.length_cons] at hs
  obtain ⟨d1, d2, d3, d4⟩ := idx hp (by omega)
  obtain ⟨r1, r2⟩ := hr p (by simp)
  have h3 : (uV p.Span p.Rows).length = 2 * p.Rows.length := by
   have := KR (ps := [p]) (n := p.Rows.length) (by simp)
   clear this
   unfold uV
   induction p.Rows with
   | nil => rfl
   | cons c cs ih => simp only [List.flatMap_cons, List.length_append, List.length_cons, List.length_nil, ih]; omega
  refine ⟨s ++ uV p.Span p.Rows, ?_, ⟨by rw [List.length_append, h3]; omega, fun q hq => hr q (by simp [hq])⟩, by simp [tL]⟩
  simp only [pY, vK, d1, cond_true]
  rw [aCO hp (by omega) r2 s (by omega), Option.bind_some]
  simp only [tH, d4]
 ·rintro s _
  simp only [pY, mY, cond_false]
  simp [tL]

theorem aEI {gs : List (List aI × List aB)} (hg : ∀ g ∈ gs, iR g.2 = true) (t : Int) : ∀ c ∈ nL t gs, 0 ≤ c.N ∧ c.N ≤ 4611686018427387904 := by
 intro c hc
 obtain ⟨g, h1, h2⟩ := List.mem_filterMap.1 hc
 split at h2
 ·rename_i hv
  simp only [Option.some.injEq] at h2; subst h2
  have := (MG (f := g.2) (b := 1048576) t (by omega) (YQ (hg g h1))).1
  have := (sV.1 (hg g h1)).1
  simp only
  omega
 ·cases h2

theorem UY (l0 : (List aC)) (m0 : ∀ a ∈ l0, AK a) (y0 : List.length l0 * 40 ≤ 140737488351232) (a1 : Int) (w1 : EV a1) : wL l0 a1 = some true := by
 have k0 := aFI m0 y0
 unfold wL
 rw [aEq, Option.bind_some]
 cases decide (((l0.length : Nat) : Int) ≤ 60) with
 | false => simp only [Bool.not_false, cond_true, HC, Option.bind_some]
 | true =>
  rw [Bool.not_true, cond_false, MO k0, Option.bind_some]
  by_cases he : (qQ l0 a1).2 = 0
  ·rw [decide_eq_true he, Bool.not_true, cond_false]
   obtain ⟨h1, h2, h3⟩ := SS he
   have hm := (BK h1).1
   have ht := (BK h1).2.1
   have hf := (BK h1).2.2.1
   obtain ⟨gg1, gg2⟩ := RC k0 hm
   have hrows : ∀ p ∈ (qQ l0 a1).1, ∃ t, p.Rows = nL t (groups l0) := by
    intro p hp
    rw [h2] at hp
    obtain ⟨t, _, h4, _⟩ := FE hp
    exact ⟨t, h4⟩
   have hps : ∀ p ∈ (qQ l0 a1).1, p.Rows.length ≤ 4096 ∧ ∀ c ∈ p.Rows, 0 ≤ c.N ∧ c.N ≤ 4611686018427387904 := by
    intro p hp
    obtain ⟨t, h4⟩ := hrows p hp
    rw [h4]
    exact ⟨by have := aA2 t (groups l0); omega, aEI (fun g hg => (gg1 g hg).1) t⟩
   have hbl := KR (ps := (qQ l0 a1).1) (n := 4096) fun p hp => (hps p hp).1
   have hbk : okL (tL (qQ l0 a1).1) := by
    refine ⟨by omega, fun e hel => ?_⟩
    obtain ⟨p, hp, hep⟩ := List.mem_flatMap.1 hel
    obtain ⟨c, hc, hec⟩ := List.mem_flatMap.1 hep
    obtain ⟨t, h4⟩ := hrows p hp
    rw [h4] at hc
    obtain ⟨g, hg, h5⟩ := List.mem_filterMap.1 hc
    have hrw : e.Row = c.Row := by
     simp only [List.mem_cons, List.not_mem_nil, or_false] at hec
     rcases hec with rfl | rfl <;> rfl
    split at h5
    ·simp only [Option.some.injEq] at h5; subst h5
     rw [hrw]; exact (gg1 g hg).2
    ·cases h5
   unfold vH
   rw [aEW h3 hps, Option.bind_some]
   unfold tI
   rw [YV hbk (by omega), Option.bind_some, aCJ k0, Option.bind_some]
   cases hg : (((!decide ((nV (tL (qQ l0 a1).1)).2 = 0)) || (!decide ((yY l0 a1).2 = 0))) || decide (a1 = 1125899906842624)) with
   | true => rw [cond_true, HC, Option.bind_some]
   | false =>
    simp only [Bool.or_eq_false_iff, Bool.not_eq_false', decide_eq_true_eq, decide_eq_false_iff_not] at hg
    obtain ⟨⟨g1, g2⟩, g3⟩ := hg
    have hlt : a1 < 1125899906842624 := by
     rcases (BK h1).2.2.2 with ⟨c, _⟩ | ⟨c, _⟩
     ·exact absurd c g3
     ·exact c
    have ka := aBK k0 a1
    have kx := aCb hbk
    rw [cond_false, aE7 ka kx, Option.bind_some, HC, Option.bind_some]
    have ma := PY g2
    have mx := MK g1
    obtain ⟨q1, q2⟩ := aEk ma mx
    rcases q2 with q2 | q2
    ·have hw : (JD (yY l0 a1).1 (nV (tL (qQ l0 a1).1)).1).1 = l0 := by
      rw [q1] at q2 ⊢
      refine YC (MK q2) hm fun r t t1 t2 => ?_
      rw [TH q2 r t1 t2, vU, uZ, TH g1 r t1 t2, aDA he hlt r t2, YF hf hlt g2 r]
      have h4 := FF hm r
      have h5 := YR (by1 := fun f => ahead f a1) (by rw [LP hf]) g2 r
      rw [uW hm] at h5
      have h6 := aCH h4 hlt h5 t
      rw [YU h4 hlt h5] at h6
      rw [h6]
      by_cases hc : t < a1
      ·simp [hc]
      ·simp [hc]
     have k2 : okL (JD (yY l0 a1).1 (nV (tL (qQ l0 a1).1)).1).1 := by rw [hw]; exact k0
     simp only [q2, decide_true, Bool.true_and, Bool.and_true, eD, cond_true, show decide ((0 : Int) = 7) = false from rfl, Bool.not_false, Bool.false_or]
     rw [ZX k2, hw]
     simp
    ·simp only [q2, decide_true, eD, show decide ((7 : Int) = 0) = false from rfl, Bool.false_and, cond_false, Option.bind_some, Bool.true_or, Bool.true_and]
  ·rw [decide_eq_false he, Bool.not_false, cond_true, HC, Option.bind_some, aA0 he]
   rfl

end Go.Abs
