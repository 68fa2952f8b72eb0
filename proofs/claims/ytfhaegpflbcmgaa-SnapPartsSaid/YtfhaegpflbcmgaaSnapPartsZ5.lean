/- What the law SnapParts stands on: the framework, the given functions as plain functions, their walks, and the plain laws; part 5. -/
import Derived.Test.YtfhaegpflbcmgaaSnapPartsZ4
set_option linter.unusedSimpArgs false
set_option linter.unusedVariables false
namespace Go.Abs
open Go
theorem WI {a b : aB} (ha : qK a = true) (hb : qK b = true) : oL a b = some (vC a b) := by
  unfold oL
  simp only [of_eq, Option.bind_some]
  rcases EI ha with h1 | ⟨h1, h1'⟩ <;> rcases EI hb with h2 | ⟨h2, h2'⟩
  · obtain ⟨k1, t1⟩ := yN h1
    obtain ⟨k2, t2⟩ := yN h2
    simp only [h1, h2, if_true, Bool.not_true, Bool.or_self, cond_false, UM, Option.bind_some]
    unfold vC
    rw [k1, k2, t1, t2, if_pos rfl, VO]
    by_cases hn : a.Num = b.Num
    · rw [if_pos hn, hn, zL]
    · rw [if_neg hn]
  · obtain ⟨k1, t1⟩ := yN h1
    obtain ⟨k2, n2, _⟩ := wV h2'
    simp only [h1, h2, h2', if_true, Bool.false_eq_true, if_false, Bool.not_true, Bool.or_self, cond_false]
    unfold vC
    rw [k1, k2]; rfl
  · obtain ⟨k1, n1, _⟩ := wV h1'
    obtain ⟨k2, t2⟩ := yN h2
    simp only [h1, h1', h2, if_true, Bool.false_eq_true, if_false, Bool.not_true, Bool.or_self, cond_false]
    unfold vC
    rw [k1, k2]; rfl
  · obtain ⟨k1, n1, _⟩ := wV h1'
    obtain ⟨k2, n2, _⟩ := wV h2'
    simp only [h1, h1', h2, h2', if_true, Bool.false_eq_true, if_false, Bool.not_true, Bool.or_self, cond_false]
    unfold vC lP jC
    rw [k1, k2, n1, n2, if_pos rfl, if_pos rfl]
    simp [aAh]

theorem wU {r : List aB} (h : jM r = true) : r.length ≤ 8 ∧ ∀ v ∈ r, qK v = true := by
  simp only [jM, Bool.and_eq_true, decide_eq_true_eq, List.all_eq_true] at h; exact h

theorem OG {a b : List aB} {k : Nat} (hk : k = a.length ∨ k = b.length) (h1 : k ≤ a.length) (h2 : k ≤ b.length) : hY (a.drop k) (b.drop k) = mP a.length b.length := by
  rcases hk with rfl | rfl
  · rw [List.drop_length]
    by_cases h : a.length = b.length
    · rw [h, List.drop_length, zL]; rfl
    · rw [List.drop_eq_getElem_cons (by omega)]
      show (-1 : Int) = _
      unfold mP; rw [if_pos (by omega)]
  · rw [List.drop_length]
    by_cases h : a.length = b.length
    · rw [← h, List.drop_length, zL]; rfl
    · rw [List.drop_eq_getElem_cons (by omega)]
      show (1 : Int) = _
      unfold mP; rw [if_neg (by omega), if_pos (by omega)]

theorem QW {a b : List aB} (hl : a.length ≤ 8) (hlb : b.length ≤ 8) (n : Nat) (hn : n = min a.length b.length) : ∀ (m k : Nat), n - k = m → k ≤ n →
    ∃ x, lp (fun s : Int × Int => cI (fun st y0 => (jL y0 st b).bind fun o => some (o.2, o.1)) (a.take n) (n : Nat) s.1 s.2) ((k : Int) - 1, (k : Int)) = some x ∧
      ((∃ sg, x = .inl sg ∧ hY (a.drop k) (b.drop k) = mP a.length b.length) ∨
        (∃ i : Nat, x = .inr ((i : Int), (i : Int)) ∧ i < a.length ∧ i < b.length ∧ hY (a.drop k) (b.drop k) = vC (a.getD i default) (b.getD i default)))
  | 0, k, hm, hk => by
    have : k = n := by omega
    subst this
    refine ⟨.inl ((k : Int) - 1), cR ?_, .inl ⟨_, rfl, OG (by omega) (by omega) (by omega)⟩⟩
    show cI _ _ _ _ _ = _
    simp only [cI, gH, cond_false]
  | m + 1, k, hm, hk => by
    have h1 : k < a.length := by omega
    have h2 : k < b.length := by omega
    have ht : (a.take n)[k]? = some a[k] := by
      rw [List.getElem?_take_of_lt (by omega)]; exact List.getElem?_eq_getElem h1
    obtain ⟨d1, d2, d3, d4⟩ := idx ht (by simp; omega)
    have hlt : (a.take n).length = n := by simp; omega
    rw [hlt] at d1 d2
    obtain ⟨_, e2, e3, _⟩ := idx (List.getElem?_eq_getElem h2) (by omega)
    have hw : IntKind.i64.wrap ((k : Int) - 1 + 1) = (k : Int) := by rw [gS (by omega) (by omega)]; omega
    have hb : (fun s : Int × Int => cI (fun st y0 => (jL y0 st b).bind fun o => some (o.2, o.1)) (a.take n) (n : Nat) s.1 s.2) ((k : Int) - 1, (k : Int)) =
        some (if a[k] = b[k] then .inl ((k : Int), ((k + 1 : Nat) : Int)) else .inr (.inr ((k : Int), (k : Int)))) := by
      show cI _ _ _ _ _ = _
      simp only [cI, d1, cond_true, hlt, aL d2, d3, d4, jL, hw, aL e2, e3, veq, Option.bind_some]
      by_cases h : a[k] = b[k] <;> simp [h]
    have ea : a.drop k = a[k] :: a.drop (k + 1) := List.drop_eq_getElem_cons h1
    have eb : b.drop k = b[k] :: b.drop (k + 1) := List.drop_eq_getElem_cons h2
    by_cases h : a[k] = b[k]
    · rw [if_pos h] at hb
      obtain ⟨x, e, hx⟩ := QW hl hlb n hn m (k + 1) (by omega) (by omega)
      have hc : hY (a.drop k) (b.drop k) = hY (a.drop (k + 1)) (b.drop (k + 1)) := by
        rw [ea, eb]; unfold hY; rw [hU, if_pos h]
      refine ⟨x, ?_, by rw [hc]; exact hx⟩
      rw [eZ hb]
      rw [show ((k + 1 : Nat) : Int) - 1 = (k : Int) by omega] at e
      exact e
    · rw [if_neg h] at hb
      refine ⟨_, cR hb, .inr ⟨k, rfl, h1, h2, ?_⟩⟩
      rw [ea, eb]; unfold hY; rw [hU, if_neg h]
      simp [List.getD_eq_getElem?_getD, h1, h2]

theorem VS (a b : List aB) : qW a b = some (if jM a && jM b then hY a b else 0) := by
  unfold qW
  rw [IY]
  simp only [Option.bind_some]
  cases ha : jM a
  · simp [dA]
  · simp only [Bool.not_true, Bool.not_false, dA, cond_true, IY, Option.bind_some, Bool.false_or]
    cases hb : jM b
    · simp
    · obtain ⟨la, ma⟩ := wU ha
      obtain ⟨lb, mb⟩ := wU hb
      have hif : (if ((List.length b : Nat) : Int) < ((List.length a : Nat) : Int) then ((List.length b : Nat) : Int) else ((List.length a : Nat) : Int)) = ((min a.length b.length : Nat) : Int) := by split <;> omega
      have hlt : (a.take (min a.length b.length)).length = min a.length b.length := by rw [List.length_take]; omega
      simp only [Bool.not_true, cond_false, hif, Int.toNat_natCast, sC, Option.bind_some, gR, gL, hlt, Bool.and_self, if_true]
      rw [aL ⟨by omega, by omega⟩]
      obtain ⟨x, e, hx⟩ := QW (a := a) (b := b) la lb _ rfl _ 0 rfl (Nat.zero_le _)
      have e' : lp (fun s : Int × Int => cI (fun st y0 => (jL y0 st b).bind fun o => some (o.2, o.1)) (a.take (min a.length b.length)) (min a.length b.length : Nat) s.1 s.2) ((-1 : Int), (0 : Int)) = some x := e
      rw [e']
      simp only [List.drop_zero] at hx
      rcases hx with ⟨sg, rfl, h⟩ | ⟨i, rfl, h1, h2, h⟩
      · simp [eV, UB, h]
      · have hi : decide ((i : Int) < 0) = false := by simp
        simp only [Option.bind_some, Sum.elim_inr, hi, cond_false, Int.toNat_natCast]
        rw [aL ⟨by omega, by omega⟩, aL ⟨by omega, by omega⟩]
        have g1 : a.getD i default ∈ a := by simp [List.getD_eq_getElem?_getD, h1]
        have g2 : b.getD i default ∈ b := by simp [List.getD_eq_getElem?_getD, h2]
        rw [WI (ma _ g1) (mb _ g2), h]
        simp only [Option.bind_some]

theorem YN {s : ByteArray} {i : Nat} (h : i < s.data.toList.length) : bt s (i : Int) = ((s.data.toList[i]).toNat : Int) := by
  have h' : i < s.data.size := by simpa using h
  unfold bt
  simp only [Int.toNat_natCast, Array.getElem_toList]
  rw [Array.getD_eq_getD_getElem?, Array.getElem?_eq_getElem h']
  rfl

theorem MS {a b : aB} (ha : a.Text.size ≤ 64) (hb : b.Text.size ≤ 64) : ∀ (m k : Nat), min a.Text.size b.Text.size - k = m → k ≤ min a.Text.size b.Text.size →
    ∃ x, lp (fun s => iH a b s) (k : Int) = some x ∧
      ((x = .inl () ∧ hU xW (a.Text.data.toList.drop k) (b.Text.data.toList.drop k) = mP a.Text.size b.Text.size) ∨ (∃ v, x = .inr v ∧ hU xW (a.Text.data.toList.drop k) (b.Text.data.toList.drop k) = v))
  | 0, k, hm, hk => by
    have hsa : a.Text.data.toList.length = a.Text.size := by rw [Array.length_toList]; rfl
    have hsb : b.Text.data.toList.length = b.Text.size := by rw [Array.length_toList]; rfl
    refine ⟨.inl (), cR ?_, .inl ⟨rfl, ?_⟩⟩
    · show iH a b _ = _
      have : ((decide ((k : Int) < ((ByteArray.size a.Text : Nat) : Int))) && (decide ((k : Int) < ((ByteArray.size b.Text : Nat) : Int)))) = false := by
        rw [Bool.and_eq_false_iff]
        simp only [decide_eq_false_iff_not]
        omega
      simp only [iH, this, cond_false]
    · by_cases h1 : a.Text.size ≤ k
      · rw [List.drop_eq_nil_of_le (by omega)]
        by_cases h2 : b.Text.size ≤ k
        · rw [List.drop_eq_nil_of_le (by omega)]
          have : a.Text.size = b.Text.size := by omega
          rw [this, zL]; rfl
        · rw [List.drop_eq_getElem_cons (by omega)]
          show (-1 : Int) = _
          unfold mP; rw [if_pos (by omega)]
      · have h2 : b.Text.size ≤ k := by omega
        rw [@List.drop_eq_nil_of_le _ b.Text.data.toList k (by omega), List.drop_eq_getElem_cons (by omega)]
        show (1 : Int) = _
        unfold mP; rw [if_neg (by omega), if_pos (by omega)]
  | m + 1, k, hm, hk => by
    have hsa : a.Text.data.toList.length = a.Text.size := by rw [Array.length_toList]; rfl
    have hsb : b.Text.data.toList.length = b.Text.size := by rw [Array.length_toList]; rfl
    have h1 : k < a.Text.data.toList.length := by omega
    have h2 : k < b.Text.data.toList.length := by omega
    have c1 : decide ((k : Int) < ((ByteArray.size a.Text : Nat) : Int)) = true := by simp; omega
    have c2 : decide ((k : Int) < ((ByteArray.size b.Text : Nat) : Int)) = true := by simp; omega
    have p1 : 0 ≤ (k : Int) ∧ (k : Int) < ((ByteArray.size a.Text : Nat) : Int) := ⟨by omega, by omega⟩
    have p2 : 0 ≤ (k : Int) ∧ (k : Int) < ((ByteArray.size b.Text : Nat) : Int) := ⟨by omega, by omega⟩
    have hw : IntKind.i64.wrap ((k : Int) + 1) = ((k + 1 : Nat) : Int) := by rw [gS (by omega) (by omega)]; omega
    have ea := List.drop_eq_getElem_cons h1
    have eb := List.drop_eq_getElem_cons h2
    have hb' : iH a b (k : Int) = some (if a.Text.data.toList[k] = b.Text.data.toList[k] then .inl ((k + 1 : Nat) : Int) else .inr (.inr (xW a.Text.data.toList[k] b.Text.data.toList[k]))) := by
      simp only [iH, c1, c2, Bool.and_self, cond_true, aL p1, aL p2, YN h1, YN h2, hw]
      generalize a.Text.data.toList[k] = x
      generalize b.Text.data.toList[k] = y
      by_cases e : x = y
      · subst e; simp
      · have e' : ¬ ((x.toNat : Int) = (y.toNat : Int)) := fun h => e (UInt8.toNat_inj.1 (by omega))
        simp only [e', decide_false, Bool.not_false, cond_true, if_neg e]
        unfold xW
        simp only [UInt8.lt_iff_toNat_lt]
        by_cases l : x.toNat < y.toNat
        · have : ((x.toNat : Int) < (y.toNat : Int)) := by omega
          simp [l]
        · have l2 : y.toNat < x.toNat := by
            rcases Nat.lt_or_ge y.toNat x.toNat with h | h
            · exact h
            · exact absurd (UInt8.toNat_inj.1 (by omega)) e
          simp [l, l2]
    by_cases e : a.Text.data.toList[k] = b.Text.data.toList[k]
    · rw [if_pos e] at hb'
      obtain ⟨x, hx1, hx2⟩ := MS ha hb m (k + 1) (by omega) (by omega)
      refine ⟨x, by rw [eZ (show (fun s => iH a b s) (k : Int) = _ from hb')]; exact hx1, ?_⟩
      rw [ea, eb, hU, if_pos e]; exact hx2
    · rw [if_neg e] at hb'
      refine ⟨_, cR (show (fun s => iH a b s) (k : Int) = _ from hb'), .inr ⟨_, rfl, ?_⟩⟩
      rw [ea, eb, hU, if_neg e]

theorem KK {v : aB} (h : qK v = true) : v.Text.size ≤ 64 := by
  rcases EI h with h | ⟨_, h⟩
  · rw [(yN h).2]; decide
  · exact (wV h).2.2

theorem JW {v : aB} (h : qK v = true) : v.Kind = 1 ∨ v.Kind = 2 := by
  rcases EI h with h | ⟨_, h⟩
  · exact .inl (yN h).1
  · exact .inr (wV h).1

theorem OH {a b : aB} (ha : qK a = true) (hb : qK b = true) : oP a b = some (vC a b) := by
  unfold oP
  simp only [II, ha, hb, Option.bind_some, Bool.not_true, Bool.not_false, dA, cond_true, Bool.or_self, cond_false]
  unfold vC
  by_cases hk : a.Kind = b.Kind
  · rw [if_pos hk]
    by_cases hn : a.Num = b.Num
    · rw [if_pos hn]
      simp only [hk, hn, decide_true, Bool.not_true, cond_false, qN]
      obtain ⟨x, e, hx⟩ := MS (KK ha) (KK hb) _ 0 rfl (Nat.zero_le _)
      simp only [Int.natCast_zero, List.drop_zero] at e hx
      rw [e]
      have ht : IM a.Text b.Text = hU xW a.Text.data.toList b.Text.data.toList := rfl
      rcases hx with ⟨rfl, h⟩ | ⟨v, rfl, h⟩
      · rw [ht, h]
        simp only [Option.bind_some, Sum.elim_inl, nR]
        unfold mP
        by_cases h1 : a.Text.size = b.Text.size
        · have h1' : ((a.Text.size : Nat) : Int) = ((b.Text.size : Nat) : Int) := by omega
          simp [h1']
        · have h1' : ¬ ((a.Text.size : Nat) : Int) = ((b.Text.size : Nat) : Int) := by omega
          by_cases h2 : ((a.Text.size : Nat) : Int) < ((b.Text.size : Nat) : Int)
          · simp only [h1', h2, decide_false, decide_true, Bool.not_false, cond_true, if_true]
          · have h3 : ((b.Text.size : Nat) : Int) < ((a.Text.size : Nat) : Int) := by omega
            simp only [h1', h2, h3, decide_false, Bool.not_false, cond_true, cond_false, if_true, if_false]
      · rw [ht, h]; rfl
    · rw [if_neg hn]
      simp only [hk, hn, decide_true, decide_false, Bool.not_true, Bool.not_false, cond_false, cond_true]
      unfold mP
      by_cases h1 : a.Num < b.Num
      · simp [h1]
      · have h2 : b.Num < a.Num := by omega
        simp [h1, h2]
  · rw [if_neg hk]
    simp only [hk, decide_false, Bool.not_false, cond_true]
    rcases JW ha with h1 | h1 <;> rcases JW hb with h2 | h2
    · exact absurd (h1.trans h2.symm) hk
    · rw [h1, h2]; rfl
    · rw [h1, h2]; rfl
    · exact absurd (h1.trans h2.symm) hk

theorem JX {a b : List aB} (ha : jM a = true) (hb : jM b = true) : ∀ (m k : Nat), min a.length b.length - k = m → k ≤ min a.length b.length →
    ∃ x, lp (fun s => iG a b s) (k : Int) = some x ∧ ((x = .inl () ∧ hY (a.drop k) (b.drop k) = mP a.length b.length) ∨ (∃ v, x = .inr v ∧ hY (a.drop k) (b.drop k) = v))
  | 0, k, hm, hk => by
    refine ⟨.inl (), cR ?_, .inl ⟨rfl, OG (by omega) (by omega) (by omega)⟩⟩
    show iG a b _ = _
    have : ((decide ((k : Int) < ((a.length : Nat) : Int))) && (decide ((k : Int) < ((b.length : Nat) : Int)))) = false := by
      rw [Bool.and_eq_false_iff]
      simp only [decide_eq_false_iff_not]
      omega
    simp only [iG, this, cond_false]
  | m + 1, k, hm, hk => by
    obtain ⟨la, ma⟩ := wU ha
    obtain ⟨lb, mb⟩ := wU hb
    have h1 : k < a.length := by omega
    have h2 : k < b.length := by omega
    obtain ⟨d1, d2, d3, d4⟩ := idx (List.getElem?_eq_getElem h1) (by omega)
    obtain ⟨e1, e2, e3, _⟩ := idx (List.getElem?_eq_getElem h2) (by omega)
    have ea := List.drop_eq_getElem_cons h1
    have eb := List.drop_eq_getElem_cons h2
    have hb' : iG a b (k : Int) = some (if a[k] = b[k] then .inl ((k + 1 : Nat) : Int) else .inr (.inr (vC a[k] b[k]))) := by
      simp only [iG, d1, e1, Bool.and_self, cond_true, aL d2, aL e2, d3, e3, d4, OH (ma _ (List.getElem_mem h1)) (mb _ (List.getElem_mem h2)), Option.bind_some]
      by_cases h : a[k] = b[k]
      · have := (BB.eq a[k] b[k]).2 h
        simp [h, (BB.eq b[k] b[k]).2 rfl]
      · have : ¬ vC a[k] b[k] = 0 := fun h' => h ((BB.eq _ _).1 h')
        simp [h, this]
    by_cases h : a[k] = b[k]
    · rw [if_pos h] at hb'
      obtain ⟨x, hx1, hx2⟩ := JX ha hb m (k + 1) (by omega) (by omega)
      refine ⟨x, by rw [eZ (show (fun s => iG a b s) (k : Int) = _ from hb')]; exact hx1, ?_⟩
      have hc : hY (a.drop k) (b.drop k) = hY (a.drop (k + 1)) (b.drop (k + 1)) := by
        rw [ea, eb]; unfold hY; rw [hU, if_pos h]
      rw [hc]; exact hx2
    · rw [if_neg h] at hb'
      refine ⟨_, cR (show (fun s => iG a b s) (k : Int) = _ from hb'), .inr ⟨_, rfl, ?_⟩⟩
      rw [ea, eb]; unfold hY; rw [hU, if_neg h]

theorem DW (a b : List aB) (hla : a.length ≤ 17592186044416) (hlb : b.length ≤ 17592186044416) : mS a b = some (if jM a && jM b then hY a b else 0) := by
  unfold mS
  rw [BE a (by omega)]
  simp only [Option.bind_some]
  cases ha : jM a
  · simp [dA]
  · simp only [Bool.not_true, Bool.not_false, dA, cond_true, BE b (by omega), Option.bind_some, Bool.false_or]
    cases hb : jM b
    · simp
    · simp only [Bool.not_true, cond_false, qG, Bool.and_self, if_true]
      obtain ⟨x, e, hx⟩ := JX ha hb _ 0 rfl (Nat.zero_le _)
      simp only [Int.natCast_zero, List.drop_zero] at e hx
      rw [e]
      rcases hx with ⟨rfl, h⟩ | ⟨v, rfl, h⟩
      · rw [h]
        simp only [Option.bind_some, Sum.elim_inl, nM]
        unfold mP
        by_cases h1 : a.length < b.length
        · simp [h1]
        · by_cases h2 : b.length < a.length <;> simp [h1, h2]
      · rw [h]; rfl

end Go.Abs
namespace Go.Abs
open Go
def jE (e : aK) : aI := ⟨e.At, e.Net⟩

def gA (r : List aB) (f : List aI) : List aK → List (List aB × List aI)
  | [] => [(r, f)]
  | e :: l => if e.Row = r then gA r (f ++ [jE e]) l else (r, f) :: gA e.Row [jE e] l

def groups : List aK → List (List aB × List aI)
  | [] => []
  | e :: l => gA e.Row [jE e] l

def itG {σ : Type} (y : σ → List aB → List aI → Option (σ × Bool)) : List (List aB × List aI) → σ → Option σ
  | [], s => some s
  | g :: gs, s => (y s g.1 g.2).bind fun x => if x.2 then itG y gs x.1 else some x.1

def okL (l : List aK) : Prop := l.length ≤ 3518437208783 ∧ ∀ e ∈ l, e.Row.length ≤ 4398046510976

theorem SB {r : List aB} (h : r.length ≤ 4398046510976) : vP r = some r := by
  unfold vP
  rw [aL ⟨by omega, by omega, by omega⟩, aL (by simp only [List.length_nil, Nat.zero_add]; omega)]
  rfl

theorem HO {σ : Type} {y : σ → List aB → List aI → Option (σ × Bool)} {l : List aK} (hl : okL l) (row : List aB) (sg : σ) : ∀ (r : List aK) (k : Nat) (f : List aI), l.drop k = r → k ≤ l.length → f.length ≤ k →
    ∃ k' f', k ≤ k' ∧ k' ≤ l.length ∧ f'.length ≤ k' ∧ lp (fun s : σ × Int × List aI => jB y l row s.1 s.2.1 s.2.2) (sg, (k : Int), f) = some (sg, ((k' : Nat) : Int), f') ∧
      gA row f r = (row, f') :: groups (l.drop k') ∧ (∀ e r', r = e :: r' → e.Row = row → k < k')
  | [], k, f, hd, hk, hf => by
    have : k = l.length := by
      have := congrArg List.length hd
      simp only [List.length_drop, List.length_nil] at this; omega
    subst this
    refine ⟨l.length, f, Nat.le_refl _, Nat.le_refl _, hf, cR ?_, by simp [gA, groups], fun e r' h => by cases h⟩
    show jB _ _ _ _ _ _ = _
    simp only [jB, gH, dA, cond_false, Option.bind_some, Bool.false_and]
    exact aL (fun h => by cases h)
  | a :: r, k, f, hd, hk, hf => by
    obtain ⟨h1, h2⟩ := drop_cons hd
    have hlt : k < l.length := (List.getElem?_eq_some_iff.1 h1).1
    obtain ⟨hll, hlr⟩ := hl
    obtain ⟨d1, d2, d3, d4⟩ := idx h1 (by omega)
    have har := hlr a (List.mem_of_getElem? h1)
    have hb : (fun s : σ × Int × List aI => jB y l row s.1 s.2.1 s.2.2) (sg, (k : Int), f) = some (if a.Row = row then .inl (sg, ((k + 1 : Nat) : Int), f ++ [jE a]) else .inr (sg, (k : Int), f)) := by
      show jB _ _ _ _ _ _ = _
      simp only [jB, d1, d3, d4, dA, cond_true, RW a.Row row (by omega), Option.bind_some, Bool.true_and]
      rw [aL (fun _ => d2)]
      by_cases e : a.Row = row
      · simp only [e, decide_true, cond_true, if_true]
        rw [aL d2, aL d2, aL (by simp only [List.length_cons, List.length_nil]; omega)]
        rfl
      · simp [e]
    by_cases e : a.Row = row
    · rw [if_pos e] at hb
      obtain ⟨k', f', g1, g2, g3, g4, g5, _⟩ := HO ⟨hll, hlr⟩ row sg r (k + 1) (f ++ [jE a]) h2 (by omega) (by simp; omega) (y := y)
      refine ⟨k', f', by omega, g2, g3, by rw [eZ hb]; exact g4, by simp [gA, e, g5], fun _ _ _ _ => by omega⟩
    · rw [if_neg e] at hb
      refine ⟨k, f, Nat.le_refl _, hk, hf, cR hb, ?_, fun b r' h hr => by cases h; exact absurd hr e⟩
      rw [hd]; simp [gA, e, groups]

theorem TA {σ : Type} {y : σ → List aB → List aI → Option (σ × Bool)} {l : List aK} (hl : okL l) : ∀ (m k : Nat) (sg s' : σ), l.length - k ≤ m → k ≤ l.length → itG y (groups (l.drop k)) sg = some s' →
    ∃ x, lp (fun s : σ × Int => iE y l s.1 s.2) (sg, (k : Int)) = some x ∧ Sum.elim id id x = s' := by
  have stop : ∀ (sg s' : σ), itG y (groups (l.drop l.length)) sg = some s' → ∃ x, lp (fun s : σ × Int => iE y l s.1 s.2) (sg, ((l.length : Nat) : Int)) = some x ∧ Sum.elim id id x = s' := by
    intro sg s' h
    rw [List.drop_length] at h
    simp only [groups, itG, Option.some.injEq] at h
    refine ⟨.inl sg, cR ?_, h⟩
    show iE _ _ _ _ = _
    simp only [iE, gH, cond_false]
  intro m
  induction m with
  | zero =>
    intro k sg s' hm hk h
    have : k = l.length := by omega
    subst this; exact stop sg s' h
  | succ m ih =>
    intro k sg s' hm hk h
    by_cases he : k = l.length
    · subst he; exact stop sg s' h
    · have hlt : k < l.length := by omega
      have hd : l.drop k = l[k] :: l.drop (k + 1) := List.drop_eq_getElem_cons hlt
      obtain ⟨d1, d2, d3, d4⟩ := idx (List.getElem?_eq_getElem hlt) (by have := hl.1; omega)
      obtain ⟨k', f', g1, g2, g3, g4, g5, g6⟩ := HO hl l[k].Row sg (l.drop k) k [] rfl hk (by simp) (y := y)
      have hk' := g6 _ _ hd rfl
      have hg : groups (l.drop k) = (l[k].Row, f') :: groups (l.drop k') := by
        rw [← g5, hd]; simp [groups, gA]
      rw [hg] at h
      simp only [itG] at h
      obtain ⟨x, hx, h⟩ := aX h
      have hrow := hl.2 _ (List.getElem_mem hlt)
      have hb : (fun s : σ × Int => iE y l s.1 s.2) (sg, (k : Int)) = some (if x.2 then .inl (x.1, ((k' : Nat) : Int)) else .inr (.inr x.1)) := by
        show iE _ _ _ _ = _
        simp only [iE, d1, cond_true, aL d2, d3, qE, g4, Option.bind_some, nO, SB hrow, hx]
        cases x.2 <;> simp
      cases hx2 : x.2
      · rw [hx2] at hb h
        simp only [Bool.false_eq_true, if_false, Option.some.injEq] at hb h
        exact ⟨_, cR hb, h⟩
      · rw [hx2] at hb h
        simp only [if_true] at hb h
        obtain ⟨z, hz1, hz2⟩ := ih k' x.1 s' (by omega) g2 h
        exact ⟨z, by rw [eZ hb]; exact hz1, hz2⟩

theorem QE {σ : Type} {y : σ → List aB → List aI → Option (σ × Bool)} {l : List aK} (hl : okL l) {s s' : σ} (h : itG y (groups l) s = some s') : mV y l s = some s' := by
  unfold mV qF
  obtain ⟨x, h1, h2⟩ := TA hl l.length 0 s s' (by omega) (Nat.zero_le _) (by simpa using h)
  simp only [Int.natCast_zero] at h1
  rw [h1]
  cases x <;> simpa using h2

def ahd (last : Option (List aB)) (r : List aB) : Bool := match last with
  | none => true
  | some q => decide (hY q r < 0)

def uH (p : List aI → Bool) : Option (List aB) → List (List aB × List aI) → Bool
  | _, [] => true
  | last, g :: gs => (jM g.1 && ahd last g.1 && p g.2) && uH p (some g.1) gs

theorem RB {holds : List aI → Option Bool} {p : List aI → Bool} (hp : ∀ f, holds f = some (p f)) (c : List aK) (t : Bool) : ∀ (gs : List (List aB × List aI)) (last : List aB) (b : Bool), (b = true → jM last = true) →
    ∃ x, itG (fun st r f => rnd (fun (s : Bool × (List aB) × Bool) => nS holds c s.1 s.2.1 s.2.2 r f) st) gs (.inl (t, last, b)) = some x ∧
      (if uH p (if b then some last else none) gs then ∃ u, x = .inl (t, u) else ∃ u, x = .inr (false, u))
  | [], last, b, _ => ⟨_, rfl, by simp [uH]⟩
  | g :: gs, last, b, hb => by
    have hy : nS holds c t last b g.1 g.2 = some (if jM g.1 && ahd (if b then some last else none) g.1 && p g.2 then .inl (t, g.1, true) else .inr (false, last, b)) := by
      unfold nS
      simp only [IY, Option.bind_some, VS, hp]
      cases hm : jM g.1
      · simp [dA]
      · cases b
        · cases h2 : p g.2 <;> simp [dA, ahd, h2]
        · have hl := hb rfl
          by_cases h1 : hY last g.1 < 0
          · have h1' : ¬ (0 ≤ hY last g.1) := by omega
            cases h2 : p g.2 <;> simp [dA, ahd, h2, hl, h1, h1']
          · have h1' : 0 ≤ hY last g.1 := by omega
            simp [dA, ahd, hl, h1, h1']
    cases hc : (jM g.1 && ahd (if b then some last else none) g.1 && p g.2)
    · rw [hc] at hy
      simp only [itG, rnd, hy, Option.bind_some, uH, hc]
      exact ⟨.inr (false, last, b), by simp, by simp⟩
    · rw [hc] at hy
      simp only [itG, rnd, hy, Option.bind_some, uH, hc]
      have hm : jM g.1 = true := by simp only [Bool.and_eq_true] at hc; exact hc.1.1
      obtain ⟨x, h1, h2⟩ := RB hp c t gs g.1 true (fun _ => hm)
      refine ⟨x, ?_, ?_⟩
      · simpa [rnd] using h1
      · simpa using h2

theorem QK {l : List aK} (hl : okL l) {holds : List aI → Option Bool} {p : List aI → Bool} (hp : ∀ f, holds f = some (p f)) : rM l holds = some (decide (l.length ≤ 4096) && uH p none (groups l)) := by
  unfold rM
  by_cases h : l.length ≤ 4096
  · have h1 : decide ((4096 : Int) < ((l.length : Nat) : Int)) = false := by simp; omega
    rw [h1, cond_false]
    simp only [rJ, Option.bind_some, vY]
    obtain ⟨x, e1, e2⟩ := RB hp l false (groups l) [] false (fun h => by cases h)
    rw [QE hl e1]
    simp only [Bool.false_eq_true, if_false] at e2
    simp only [h, decide_true, Bool.true_and]
    cases hc : uH p none (groups l)
    · rw [hc] at e2
      simp only [Bool.false_eq_true, if_false] at e2
      obtain ⟨u, rfl⟩ := e2
      rfl
    · rw [hc] at e2
      simp only [if_true] at e2
      obtain ⟨u, rfl⟩ := e2
      rfl
  · have h1 : decide ((4096 : Int) < ((l.length : Nat) : Int)) = true := by simp; omega
    rw [h1, cond_true]
    simp [h]

def lW (l : List aK) : Bool := decide (l.length ≤ 4096) && uH kA none (groups l)

theorem RG {l : List aK} (hl : okL l) : tC l = some (lW l) := by
  unfold tC
  rw [QK hl (p := kA) (fun f => GS f)]; rfl

def IS (f : List aI) : Bool := kA f && decide (0 ≤ sX f)

def pK (l : List aK) : Bool := decide (l.length ≤ 4096) && uH IS none (groups l)

theorem UR {l : List aK} (hl : okL l) : sH l = some (pK l) := by
  unfold sH
  rw [QK hl (p := IS) (fun f => by
    unfold qA IS
    rw [GS]
    cases h : kA f <;> simp [dA, XA, h])]
  rfl

def vO (r : List aB) (f : List aI) : List aK := f.map fun j => ⟨r, j.At, j.Net⟩

def flat (gs : List (List aB × List aI)) : List aK := gs.flatMap fun g => vO g.1 g.2

theorem IT : ∀ (l : List aK) (r : List aB) (f : List aI), flat (gA r f l) = vO r f ++ l
  | [], r, f => by simp [gA, flat]
  | e :: l, r, f => by
    unfold gA
    split
    · rename_i h
      rw [IT l r]
      simp [vO, jE, ← h]
    · have := IT l e.Row [jE e]
      simp only [flat, List.flatMap_cons] at this ⊢
      rw [this]
      simp [vO, jE]

theorem xD (l : List aK) : flat (groups l) = l := by
  cases l with
  | nil => rfl
  | cons e l => unfold groups; rw [IT]; simp [vO, jE]

theorem NC {r : List aB} : ∀ {l : List aK} {f : List aI} {g : List aB × List aI}, g ∈ gA r f l → f ≠ [] → g.2 ≠ [] ∧ (g.1 = r ∨ ∃ e ∈ l, g.1 = e.Row)
  | [], f, g, h, hf => by simp only [gA, List.mem_singleton] at h; subst h; exact ⟨hf, .inl rfl⟩
  | e :: l, f, g, h, hf => by
    unfold gA at h
    split at h
    · obtain ⟨h1, h2⟩ := NC h (by simp)
      exact ⟨h1, h2.imp id fun ⟨x, hx, hx'⟩ => ⟨x, by simp [hx], hx'⟩⟩
    · rcases List.mem_cons.1 h with rfl | h
      · exact ⟨hf, .inl rfl⟩
      · obtain ⟨h1, h2⟩ := NC (r := e.Row) h (by simp)
        refine ⟨h1, .inr ?_⟩
        rcases h2 with h2 | ⟨x, hx, hx'⟩
        · exact ⟨e, by simp, h2⟩
        · exact ⟨x, by simp [hx], hx'⟩

theorem BR {l : List aK} {g : List aB × List aI} (h : g ∈ groups l) : g.2 ≠ [] ∧ ∃ e ∈ l, g.1 = e.Row := by
  cases l with
  | nil => simp [groups] at h
  | cons e l =>
    obtain ⟨h1, h2⟩ := NC h (by simp)
    refine ⟨h1, ?_⟩
    rcases h2 with h2 | ⟨x, hx, hx'⟩
    · exact ⟨e, by simp, h2⟩
    · exact ⟨x, by simp [hx], hx'⟩

end Go.Abs
namespace Go.Abs
open Go
def eH (l : List aK) (r : List aB) : List aI := (l.filter fun e => decide (e.Row = r)).map jE

theorem AU (a b : List aK) (r : List aB) : eH (a ++ b) r = eH a r ++ eH b r := by simp [eH]

theorem LB (q : List aB) (f : List aI) (r : List aB) : eH (vO q f) r = if q = r then f else [] := by
  induction f with
  | nil => simp [eH, vO]
  | cons j f ih =>
    have h1 : vO q (j :: f) = [⟨q, j.At, j.Net⟩] ++ vO q f := rfl
    rw [h1, AU, ih]
    by_cases h : q = r <;> simp [eH, jE, h]

def look : List (List aB × List aI) → List aB → List aI
  | [], _ => []
  | g :: gs, r => if g.1 = r then g.2 else look gs r

theorem zQ (g : List aB × List aI) (gs : List (List aB × List aI)) (r : List aB) : look (g :: gs) r = if g.1 = r then g.2 else look gs r := rfl

abbrev ltG (a b : List aB × List aI) : Prop := hY a.1 b.1 < 0

abbrev FL (gs : List (List aB × List aI)) : Prop := gs.Pairwise ltG

theorem wO {a : List aB} : ¬ hY a a < 0 := by rw [(oU.eq a a).2 rfl]; omega

theorem KE : ∀ {gs : List (List aB × List aI)} {r : List aB}, (∀ g ∈ gs, g.1 ≠ r) → look gs r = []
  | [], _, _ => rfl
  | g :: gs, r, h => by
    rw [zQ]
    rw [if_neg (h g (by simp))]
    exact KE fun q hq => h q (by simp [hq])

theorem HG (gs : List (List aB × List aI)) (r : List aB) : (look gs r = [] ∧ ∀ g ∈ gs, g.1 ≠ r) ∨ ∃ g ∈ gs, g.1 = r ∧ look gs r = g.2 := by
  induction gs with
  | nil => exact .inl ⟨rfl, by simp⟩
  | cons g gs ih =>
    rw [zQ]
    by_cases h : g.1 = r
    · rw [if_pos h]; exact .inr ⟨g, by simp, h, rfl⟩
    · rw [if_neg h]
      rcases ih with ⟨h1, h2⟩ | ⟨q, hq, h1, h2⟩
      · refine .inl ⟨h1, fun q hq => ?_⟩
        rcases List.mem_cons.1 hq with rfl | hq
        · exact h
        · exact h2 q hq
      · exact .inr ⟨q, by simp [hq], h1, h2⟩

theorem GI {gs : List (List aB × List aI)} (hs : FL gs) {g : List aB × List aI} (hg : g ∈ gs) : look gs g.1 = g.2 := by
  induction gs with
  | nil => simp at hg
  | cons q gs ih =>
    have hs' := List.pairwise_cons.1 hs
    rw [zQ]
    rcases List.mem_cons.1 hg with rfl | hg
    · rw [if_pos rfl]
    · rw [if_neg (fun e => by have := hs'.1 g hg; simp only [ltG, e] at this; exact wO this)]
      exact ih hs'.2 hg

theorem UL (g : List aB × List aI) (gs : List (List aB × List aI)) : flat (g :: gs) = vO g.1 g.2 ++ flat gs := rfl

theorem EB : ∀ {gs : List (List aB × List aI)}, FL gs → ∀ r, eH (flat gs) r = look gs r
  | [], _, r => rfl
  | g :: gs, hs, r => by
    have hs' := List.pairwise_cons.1 hs
    rw [UL, AU, LB, EB hs'.2, zQ]
    by_cases h : g.1 = r
    · rw [if_pos h, if_pos h, KE, List.append_nil]
      intro q hq e
      have := hs'.1 q hq
      simp only [ltG, h, e] at this; exact wO this
    · rw [if_neg h, if_neg h]; rfl

theorem vD {p : List aI → Bool} : ∀ {gs : List (List aB × List aI)} {last : Option (List aB)}, uH p last gs = true ↔ (∀ g ∈ gs, jM g.1 = true ∧ p g.2 = true) ∧ FL gs ∧ (∀ q, last = some q → ∀ g ∈ gs, hY q g.1 < 0)
  | [], last => by simp [uH]
  | g :: gs, last => by
    unfold uH
    simp only [Bool.and_eq_true, vD (gs := gs), List.mem_cons, List.pairwise_cons]
    constructor
    · rintro ⟨⟨⟨h1, h2⟩, h3⟩, h4, h5, h6⟩
      refine ⟨?_, ⟨fun q hq => h6 _ rfl q hq, h5⟩, ?_⟩
      · rintro q (rfl | hq)
        · exact ⟨h1, h3⟩
        · exact h4 q hq
      · rintro q rfl x (rfl | hx)
        · simpa [ahd] using h2
        · simp only [ahd, decide_eq_true_eq] at h2
          exact oU.trans _ _ _ h2 (h6 _ rfl x hx)
    · rintro ⟨h1, ⟨h2, h3⟩, h4⟩
      refine ⟨⟨⟨(h1 g (.inl rfl)).1, ?_⟩, (h1 g (.inl rfl)).2⟩, fun q hq => h1 q (.inr hq), h3, ?_⟩
      · unfold ahd
        split
        · rfl
        · exact decide_eq_true (h4 _ rfl g (.inl rfl))
      · rintro q hq x hx
        cases hq
        exact h2 x hx

theorem rS {l : List aK} (h : lW l = true) : l.length ≤ 4096 ∧ (∀ g ∈ groups l, jM g.1 = true ∧ kA g.2 = true) ∧ FL (groups l) := by
  simp only [lW, Bool.and_eq_true, decide_eq_true_eq] at h
  obtain ⟨h1, h2, _⟩ := vD.1 h.2
  exact ⟨h.1, h1, h2⟩

theorem VJ {l : List aK} (h : lW l = true) (r : List aB) : kA (look (groups l) r) = true := by
  rcases HG (groups l) r with ⟨h1, _⟩ | ⟨g, hg, _, h1⟩
  · rw [h1]; exact aAe
  · rw [h1]; exact ((rS h).2.1 g hg).2

theorem vM {l : List aK} (h : FL (groups l)) (r : List aB) : look (groups l) r = eH l r := by
  rw [← EB h, xD]

theorem QO (r : List aB) (f : List aI) (e : aK) (l : List aK) : gA r f (e :: l) = if e.Row = r then gA r (f ++ [jE e]) l else (r, f) :: gA e.Row [jE e] l := rfl

theorem VB {l : List aK} (hl : okL l) {g : List aB × List aI} (hg : g ∈ groups l) : g.1.length ≤ 4398046510976 := by
  obtain ⟨_, e, he, h⟩ := BR hg
  rw [h]; exact hl.2 e he

theorem xX : ∀ (l : List aK) (r : List aB) (f : List aI), (gA r f l).length ≤ l.length + 1
  | [], _, _ => by simp [gA]
  | e :: l, r, f => by
    rw [QO]
    split
    · have := xX l r (f ++ [jE e]); simp only [List.length_cons]; omega
    · have := xX l e.Row [jE e]; simp only [List.length_cons]; omega

theorem IC (l : List aK) : (groups l).length ≤ l.length := by
  cases l with
  | nil => simp [groups]
  | cons e l => exact xX l e.Row [jE e]

end Go.Abs
namespace Go.Abs
open Go
abbrev leE (x y : aK) : Prop := hY x.Row y.Row < 0 ∨ (x.Row = y.Row ∧ x.At ≤ y.At)

theorem NS : ∀ {l : List aK} {r : List aB} {f : List aI}, Srt leE l → (∀ e ∈ l, e.Row = r ∨ hY r e.Row < 0) → FL (gA r f l) ∧ ∀ g ∈ gA r f l, g.1 = r ∨ hY r g.1 < 0
  | [], r, f, _, _ => by simp [gA]
  | e :: l, r, f, hs, hr => by
    have hs' := List.pairwise_cons.1 hs
    rw [QO]
    by_cases h : e.Row = r
    · rw [if_pos h]
      exact NS hs'.2 (fun x hx => hr x (by simp [hx]))
    · rw [if_neg h]
      have hlt : hY r e.Row < 0 := (hr e (by simp)).resolve_left h
      obtain ⟨h1, h2⟩ := NS (r := e.Row) (f := [jE e]) hs'.2 (fun x hx => by
        rcases hs'.1 x hx with h | ⟨h, _⟩
        · exact .inr h
        · exact .inl h.symm)
      have key : ∀ g ∈ gA e.Row [jE e] l, hY r g.1 < 0 := fun g hg => by
        rcases h2 g hg with h | h
        · rw [h]; exact hlt
        · exact oU.trans _ _ _ hlt h
      refine ⟨List.pairwise_cons.2 ⟨key, h1⟩, ?_⟩
      intro g hg
      rcases List.mem_cons.1 hg with rfl | hg
      · exact .inl rfl
      · exact .inr (key g hg)

theorem BN {l : List aK} (hs : Srt leE l) : FL (groups l) := by
  cases l with
  | nil => exact List.Pairwise.nil
  | cons e l =>
    have hs' := List.pairwise_cons.1 hs
    exact (NS hs'.2 (fun x hx => by
      rcases hs'.1 x hx with h | ⟨h, _⟩
      · exact .inr h
      · exact .inl h.symm)).1

abbrev DR (rs : List (List aB)) : Prop := rs.Pairwise fun a b => hY a b < 0

def oT (r : List aB) : List (List aB) → List (List aB)
  | [] => [r]
  | x :: xs => if hY x r < 0 then x :: oT r xs else if x = r then x :: xs else r :: x :: xs

def rowsOf (l : List aK) : List (List aB) := l.foldl (fun rs e => oT e.Row rs) []

theorem CA {r x : List aB} : ∀ {rs : List (List aB)}, x ∈ oT r rs ↔ x = r ∨ x ∈ rs
  | [] => by simp [oT]
  | y :: ys => by
    unfold oT
    split
    · simp only [List.mem_cons, CA (rs := ys)]
      constructor
      · rintro (h | h | h)
        · exact .inr (.inl h)
        · exact .inl h
        · exact .inr (.inr h)
      · rintro (h | h | h)
        · exact .inr (.inl h)
        · exact .inl h
        · exact .inr (.inr h)
    · split
      · rename_i h; subst h; simp
      · simp

theorem LQ {r : List aB} : ∀ {rs : List (List aB)}, DR rs → DR (oT r rs)
  | [], _ => by simp [oT]
  | y :: ys, hs => by
    have hs' := List.pairwise_cons.1 hs
    unfold oT
    split
    · rename_i h
      refine List.pairwise_cons.2 ⟨fun z hz => ?_, LQ hs'.2⟩
      rcases CA.1 hz with rfl | hz
      · exact h
      · exact hs'.1 z hz
    · rename_i h
      split
      · exact hs
      · rename_i hne
        have hlt : hY r y < 0 := by
          have h0 : hY y r ≠ 0 := fun e => hne ((oU.eq _ _).1 e)
          exact (oU.anti _ _).2 (by omega)
        refine List.pairwise_cons.2 ⟨fun z hz => ?_, hs⟩
        rcases List.mem_cons.1 hz with rfl | hz
        · exact hlt
        · exact oU.trans _ _ _ hlt (hs'.1 z hz)

theorem DZ : ∀ (l : List aK) (rs : List (List aB)), DR rs → DR (l.foldl (fun rs e => oT e.Row rs) rs) ∧ ∀ x, x ∈ l.foldl (fun rs e => oT e.Row rs) rs ↔ x ∈ rs ∨ ∃ e ∈ l, e.Row = x
  | [], rs, hs => ⟨hs, by simp⟩
  | e :: l, rs, hs => by
    obtain ⟨h1, h2⟩ := DZ l (oT e.Row rs) (LQ hs)
    refine ⟨h1, fun x => ?_⟩
    simp only [List.foldl_cons]
    rw [h2 x, CA]
    simp only [List.mem_cons, exists_eq_or_imp]
    constructor
    · rintro ((h | h) | h)
      · exact .inr (.inl h.symm)
      · exact .inl h
      · exact .inr (.inr h)
    · rintro (h | h | h)
      · exact .inl (.inr h)
      · exact .inl (.inl h.symm)
      · exact .inr h

theorem RQ (l : List aK) : DR (rowsOf l) := (DZ l [] List.Pairwise.nil).1

theorem BQ {l : List aK} {x : List aB} : x ∈ rowsOf l ↔ ∃ e ∈ l, e.Row = x := by
  have := (DZ l [] List.Pairwise.nil).2 x
  simpa [rowsOf] using this

theorem NA : ∀ {a b : List (List aB)}, DR a → DR b → (∀ x, x ∈ a ↔ x ∈ b) → a = b
  | [], [], _, _, _ => rfl
  | [], y :: ys, _, _, h => absurd ((h y).2 (by simp)) (by simp)
  | x :: xs, [], _, _, h => absurd ((h x).1 (by simp)) (by simp)
  | x :: xs, y :: ys, ha, hb, h => by
    have ha' := List.pairwise_cons.1 ha
    have hb' := List.pairwise_cons.1 hb
    have e : x = y := by
      rcases List.mem_cons.1 ((h x).1 (by simp)) with h1 | h1
      · exact h1
      · rcases List.mem_cons.1 ((h y).2 (by simp)) with h2 | h2
        · exact h2.symm
        · exact absurd (oU.trans _ _ _ (hb'.1 x h1) (ha'.1 y h2)) wO
    subst e
    rw [NA ha'.2 hb'.2 fun z => ?_]
    constructor
    · intro hz
      rcases List.mem_cons.1 ((h z).1 (by simp [hz])) with h1 | h1
      · subst h1; exact absurd (ha'.1 z hz) wO
      · exact h1
    · intro hz
      rcases List.mem_cons.1 ((h z).2 (by simp [hz])) with h1 | h1
      · subst h1; exact absurd (hb'.1 z hz) wO
      · exact h1

def RN (l : List aK) : List (List aB × List aI) := (rowsOf l).map fun r => (r, eH l r)

theorem PX {l : List aK} {r : List aB} (h : ∀ e ∈ l, e.Row ≠ r) : eH l r = [] := by
  unfold eH
  rw [List.map_eq_nil_iff, List.filter_eq_nil_iff]
  intro e he
  simpa using h e he

theorem PY {l l' : List aK} (hp : l'.Perm l) (hs : Srt leE l') : (groups l').map (·.1) = rowsOf l := by
  refine NA ?_ (RQ l) fun x => ?_
  · rw [DR, List.pairwise_map]; exact BN hs
  · rw [BQ]
    constructor
    · intro h
      obtain ⟨g, hg, rfl⟩ := List.mem_map.1 h
      obtain ⟨_, e, he, h1⟩ := BR hg
      exact ⟨e, hp.mem_iff.1 he, h1.symm⟩
    · rintro ⟨e, he, rfl⟩
      have he' : e ∈ flat (groups l') := by rw [xD]; exact hp.mem_iff.2 he
      obtain ⟨g, hg, h1⟩ := List.mem_flatMap.1 he'
      obtain ⟨j, _, rfl⟩ := List.mem_map.1 h1
      exact List.mem_map.2 ⟨g, hg, rfl⟩

end Go.Abs
namespace Go.Abs
open Go
def vL : aB := ⟨1, 1, ByteArray.empty⟩

end Go.Abs
namespace Go.Abs
open Go
theorem FB {σ : Type} {y : σ → List aB → List aI → Option (σ × Bool)} (c : List aK) : ∀ (gs : List (List aB × List aI)) (s s' : σ), itG y gs s = some s' →
    ∃ x, itG (fun st t10 t11 => rnd (fun (s : σ) => kC y c s t10 t11) st) gs (.inl s) = some x ∧ Sum.elim id id x = s'
  | [], s, s', h => by simp only [itG, Option.some.injEq] at h; exact ⟨_, rfl, h⟩
  | g :: gs, s, s', h => by
    simp only [itG] at h
    obtain ⟨z, hz, h⟩ := aX h
    have hl : kC y c s g.1 g.2 = some (if z.2 then .inl z.1 else .inr z.1) := by
      unfold kC
      rw [hz]
      obtain ⟨z1, z2⟩ := z
      cases z2 <;> rfl
    cases h2 : z.2
    · rw [h2] at h hl
      simp only [Bool.false_eq_true, if_false, Option.some.injEq] at h hl
      refine ⟨.inr z.1, ?_, h⟩
      simp [itG, rnd, hl]
    · rw [h2] at h hl
      simp only [if_true] at h hl
      obtain ⟨x, h3, h4⟩ := FB c gs z.1 s' h
      refine ⟨x, ?_, h4⟩
      simp only [itG, rnd, hl, Option.bind_some, Sum.isLeft_inl, if_true]
      exact h3

theorem TH {σ : Type} {y : σ → List aB → List aI → Option (σ × Bool)} {l : List aK} (hl : okL l) {s s' : σ} (h : itG y (if lW l then groups l else []) s = some s') : nB y l s = some s' := by
  unfold nB
  rw [RG hl]
  cases hm : lW l
  · rw [hm] at h
    simp only [Bool.false_eq_true, if_false, itG] at h
    simpa using h
  · rw [hm] at h
    simp only [if_true] at h
    simp only [Option.bind_some, Bool.not_true, cond_false, rJ, oN]
    obtain ⟨x, h1, h2⟩ := FB l (groups l) s s' h
    rw [QE hl h1]
    cases x <;> simpa using h2

theorem vH {l : List aK} (hm : lW l = true) {e : aK} (he : e ∈ l) : jM e.Row = true ∧ -2 < e.At ∧ e.At < 1125899906842624 ∧ e.Net ≠ 0 ∧ e.Net ≤ 1048576 ∧ -1048576 ≤ e.Net := by
  obtain ⟨_, h2, _⟩ := rS hm
  have he' : e ∈ flat (groups l) := by rw [xD]; exact he
  obtain ⟨g, hg, h1⟩ := List.mem_flatMap.1 he'
  obtain ⟨j, hj, rfl⟩ := List.mem_map.1 h1
  obtain ⟨a, b⟩ := h2 g hg
  exact ⟨a, (pT.1 b).2.above j hj⟩

theorem tA {l : List aK} (hm : lW l = true) (r : List aB) : kA (eH l r) = true := by
  rw [← vM (rS hm).2.2]; exact VJ hm r

end Go.Abs
namespace Go.Abs
open Go
theorem xG {l : List aK} (hl : okL l) (hn : l.length ≤ 1099511627776) {r : List aB} : mY l r = some (eH l r) := by
  unfold mY tM
  rw [pV (l := l) (body := fun s : List aI × Int => lA l r s.1 s.2) (fun o i => (o, i)) (fun o t => o ++ eH t r) (fun o t => o.length + t.length ≤ 1099511627776) [] ?_ ?_ (by simpa using hn)]
  · rfl
  · intro i a t o ha hi
    left
    obtain ⟨d1, d2, d3, d4⟩ := idx ha (by omega)
    simp only [List.length_cons] at hi
    have hr := hl.2 a (List.mem_of_getElem? ha)
    have hb : lA l r o (i : Int) = some (.inl (if a.Row = r then o ++ [jE a] else o, ((i + 1 : Nat) : Int))) := by
      simp only [lA, qB, d1, cond_true, aL d2, d3, d4, xS a.Row r (by omega), Option.bind_some]
      by_cases e : a.Row = r
      · simp only [e, decide_true, cond_true, if_true]
        rw [aL (by simp only [List.length_cons, List.length_nil]; omega)]; rfl
      · simp [e]
    refine ⟨_, hb, ?_, ?_⟩
    · split
      · simp; omega
      · omega
    · by_cases e : a.Row = r <;> simp [eH, e]
  · intro o _
    show lA _ _ _ _ = _
    simp only [lA, gH, cond_false]
    simp [eH]

theorem GC (r : List aB) : ∀ rs : List (List aB), (oT r rs).length ≤ rs.length + 1
  | [] => by simp [oT]
  | x :: xs => by
    unfold oT
    split
    · simp only [List.length_cons]; have := GC r xs; omega
    · split <;> simp

def tQ (r : List aB) : List (List aB) → Nat
  | [] => 0
  | x :: xs => if hY x r < 0 then tQ r xs + 1 else 0

theorem QF (r : List aB) : ∀ rs, tQ r rs ≤ rs.length
  | [] => by simp [tQ]
  | x :: xs => by unfold tQ; split <;> simp [QF r xs]

theorem MV (r : List aB) : ∀ rs, oT r rs = if rs[tQ r rs]? = some r then rs else rs.take (tQ r rs) ++ [r] ++ rs.drop (tQ r rs)
  | [] => by simp [oT]
  | x :: xs => by
    unfold oT tQ
    by_cases h : hY x r < 0
    · rw [if_pos h, if_pos h, MV r xs]
      simp only [List.getElem?_cons_succ, List.take_succ_cons, List.drop_succ_cons]
      split <;> simp
    · rw [if_neg h, if_neg h]
      by_cases e : x = r <;> simp [e]

theorem ID {l : List aK} {rs : List (List aB)} {e : aK} {i : Nat} (hi : l[i]? = some e) (hl : okL l) (he : jM e.Row = true) (hr : ∀ x ∈ rs, jM x = true) (hn : rs.length ≤ 1099511627776) : ∀ (t : List (List aB)) (k : Nat), rs.drop k = t → k ≤ rs.length →
    lp (fun s : List (List aB) × Int => kW l (i : Int) s.1 s.2) (rs, (k : Int)) = some (rs, ((k + tQ e.Row t : Nat) : Int))
  | [], k, hd, hk => by
    have : k = rs.length := by
      have := congrArg List.length hd
      simp only [List.length_drop, List.length_nil] at this; omega
    subst this
    refine cR ?_
    show kW _ _ _ _ = _
    simp only [kW, gH, dA, cond_false, Option.bind_some, Bool.false_and]
    rw [aL (fun h => by cases h), aL (fun h => by cases h)]
    simp [tQ]
  | x :: t, k, hd, hk => by
    obtain ⟨h1, h2⟩ := drop_cons hd
    have hlt := (List.getElem?_eq_some_iff.1 h1).1
    obtain ⟨d1, d2, d3, d4⟩ := idx h1 (by omega)
    obtain ⟨_, c2, c3, _⟩ := idx hi (by have := hl.1; omega)
    have hx := hr x (List.mem_of_getElem? h1)
    have hb : (fun s : List (List aB) × Int => kW l (i : Int) s.1 s.2) (rs, (k : Int)) = some (if hY x e.Row < 0 then .inl (rs, ((k + 1 : Nat) : Int)) else .inr (rs, (k : Int))) := by
      show kW _ _ _ _ = _
      simp only [kW, d1, dA, cond_true, d3, c3, d4, Bool.true_and]
      rw [aL (fun _ => d2), aL (fun _ => c2), DW x e.Row (by have := (wU hx).1; omega) (by have := (wU he).1; omega), hx, he]
      simp only [Bool.and_self, if_true, Option.bind_some]
      by_cases h : hY x e.Row < 0 <;> simp [h]
    unfold tQ
    by_cases h : hY x e.Row < 0
    · rw [if_pos h] at hb
      rw [eZ hb, ID hi hl he hr hn t (k + 1) h2 (by omega), if_pos h]
      congr 3; omega
    · rw [if_neg h] at hb
      rw [cR hb, if_neg h]; rfl

theorem BL {l : List aK} (hl : okL l) (hm : ∀ e ∈ l, jM e.Row = true) (hn : l.length ≤ 1099511627776) : nU l = some (rowsOf l) := by
  unfold nU uO
  rw [pV (l := l) (body := fun s : List (List aB) × Int => lQ l s.1 s.2) (fun o i => (o, i)) (fun o t => t.foldl (fun rs e => oT e.Row rs) o) (fun o t => o.length + t.length ≤ 1099511627776 ∧ ∀ x ∈ o, jM x = true) [] ?_ ?_ ⟨by simpa using hn, by simp⟩]
  · rfl
  · rintro i e t rs hi ⟨h1, h2⟩
    left
    obtain ⟨d1, d2, d3, d4⟩ := idx hi (by omega)
    have he := hm e (List.mem_of_getElem? hi)
    simp only [List.length_cons] at h1
    refine ⟨oT e.Row rs, ?_, ⟨by have := GC e.Row rs; omega, fun x hx => by
      rcases CA.1 hx with rfl | h
      · exact he
      · exact h2 x h⟩, rfl⟩
    show lQ _ _ _ = _
    have hin := ID hi hl he h2 (by omega) rs 0 rfl (Nat.zero_le _)
    simp only [Int.natCast_zero, Nat.zero_add] at hin
    have hple := QF e.Row rs
    simp only [lQ, d1, cond_true, uF, hin, Option.bind_some, qU, rH, d3, d4]
    rw [MV]
    by_cases hp : tQ e.Row rs < rs.length
    · have hx : rs[tQ e.Row rs]? = some rs[tQ e.Row rs] := List.getElem?_eq_getElem hp
      obtain ⟨f1, f2, f3, _⟩ := idx hx (by omega)
      have hrow := h2 _ (List.mem_of_getElem? hx)
      simp only [f1, f3, dA, cond_true, Bool.true_and]
      rw [aL (fun _ => f2), aL (fun _ => d2), xS _ _ (by have := (wU hrow).1; omega)]
      by_cases hq : rs[tQ e.Row rs] = e.Row
      · simp [hq, hx]
      · simp only [hq, decide_false, cond_false, Option.bind_some, hx, Option.some.injEq, if_false, Int.toNat_natCast]
        rw [aL ⟨by omega, by omega⟩, aL ⟨by simp; omega, by simp; omega⟩, aL d2, aL ⟨by simp; omega, by simp; omega⟩, aL ⟨by omega, by omega⟩, aL ⟨by simp; omega, by simp; omega⟩]
    · have hpe : tQ e.Row rs = rs.length := by omega
      rw [hpe]
      simp only [gH, dA, cond_false, Option.bind_some, Bool.false_and]
      rw [aL (fun h => by cases h), aL (fun h => by cases h)]
      have hnone : rs[rs.length]? = none := by simp
      simp only [hnone, reduceCtorEq, if_false, Int.toNat_natCast]
      rw [aL ⟨by omega, by omega⟩, aL ⟨by simp; omega, by simp; omega⟩, aL d2, aL ⟨by simp; omega, by simp; omega⟩, aL ⟨by omega, by omega⟩, aL ⟨by simp; omega, by simp; omega⟩]
  · rintro rs ⟨_, _⟩
    show lQ _ _ _ = _
    simp only [lQ, gH, cond_false]
    rfl

theorem CJ : ∀ (l : List aK) (rs : List (List aB)), (l.foldl (fun rs e => oT e.Row rs) rs).length ≤ rs.length + l.length
  | [], rs => by simp
  | e :: l, rs => by
    have := CJ l (oT e.Row rs)
    have := GC e.Row rs
    simp only [List.foldl_cons, List.length_cons]; omega

theorem GP (l : List aK) : (rowsOf l).length ≤ l.length := by
  have := CJ l []
  simpa [rowsOf] using this

end Go.Abs
namespace Go.Abs
open Go
abbrev ltE (x y : aK) : Prop := hY x.Row y.Row < 0 ∨ (x.Row = y.Row ∧ x.At < y.At)

theorem VE {x y z : aK} (h1 : ltE x y) (h2 : ltE y z) : ltE x z := by
  rcases h1 with h1 | ⟨h1, h1'⟩ <;> rcases h2 with h2 | ⟨h2, h2'⟩
  · exact .inl (oU.trans _ _ _ h1 h2)
  · exact .inl (h2 ▸ h1)
  · exact .inl (h1 ▸ h2)
  · exact .inr ⟨h1.trans h2, by omega⟩

theorem zN : ∀ {f : List aI} {last : Int}, rV last f ↔ (∀ j ∈ f, nV last j = false) ∧ f.Pairwise fun a b => a.At < b.At
  | [], last => by simp [rV]
  | j :: f, last => by
    rw [List.pairwise_cons]
    unfold rV
    rw [← kT]
    constructor
    · rintro ⟨h1, h2⟩
      have h3 := zN.1 h2
      have h4 := kT.1 h1
      refine ⟨fun k hk => ?_, fun k hk => (kT.1 (h3.1 k hk)).1, h3.2⟩
      rcases List.mem_cons.1 hk with rfl | hk
      · exact h1
      · have := kT.1 (h3.1 k hk)
        exact kT.2 (by omega)
    · rintro ⟨h1, h2, h3⟩
      refine ⟨h1 j (by simp), zN.2 ⟨fun k hk => ?_, h3⟩⟩
      have := kT.1 (h1 k (by simp [hk]))
      have := h2 k hk
      exact kT.2 (by omega)

theorem yS {l : List aK} : lW l = true ↔ l.length ≤ 4096 ∧ (∀ e ∈ l, jM e.Row = true ∧ nV (-2) (jE e) = false) ∧ l.Pairwise ltE ∧ ∀ r ∈ rowsOf l, (eH l r).length ≤ 1024 := by
  constructor
  · intro h
    obtain ⟨h1, h2, h3⟩ := rS h
    refine ⟨h1, fun e he => ?_, ?_, fun r _ => (pT.1 (tA h r)).1⟩
    · obtain ⟨a, b, c, d, e1, e2⟩ := vH h he
      exact ⟨a, kT.2 ⟨b, c, d, e1, e2⟩⟩
    · rw [← xD l]
      unfold flat
      rw [List.flatMap, List.pairwise_flatten, List.pairwise_map]
      constructor
      · intro x hx
        obtain ⟨g, hg, rfl⟩ := List.mem_map.1 hx
        have := (zN.1 (pT.1 (h2 g hg).2).2).2
        rw [vO, List.pairwise_map]
        exact this.imp fun h => .inr ⟨rfl, h⟩
      · refine h3.imp fun {a b} h x hx y hy => ?_
        obtain ⟨j, _, rfl⟩ := List.mem_map.1 hx
        obtain ⟨k, _, rfl⟩ := List.mem_map.1 hy
        exact .inl h
  · rintro ⟨h1, h2, h3, h4⟩
    have hs : Srt leE l := h3.imp fun h => by
      rcases h with h | ⟨h, h'⟩
      · exact .inl h
      · exact .inr ⟨h, by omega⟩
    have hg := BN hs
    unfold lW
    rw [Bool.and_eq_true]
    refine ⟨by simpa using h1, vD.2 ⟨fun g hg' => ?_, hg, fun q hq => by cases hq⟩⟩
    obtain ⟨_, e, he, h5⟩ := BR hg'
    have hj : g.2 = eH l g.1 := by rw [← vM hg, GI hg hg']
    refine ⟨by rw [h5]; exact (h2 e he).1, ?_⟩
    rw [hj]
    refine pT.2 ⟨h4 _ (BQ.2 ⟨e, he, h5.symm⟩), zN.2 ⟨fun j hj => ?_, ?_⟩⟩
    · obtain ⟨e, he, rfl⟩ := List.mem_map.1 hj
      exact (h2 e (List.mem_filter.1 he).1).2
    · unfold eH
      rw [List.pairwise_map, List.pairwise_filter]
      refine h3.imp fun {a b} h ha hb => ?_
      rcases h with h | ⟨_, h⟩
      · simp only [decide_eq_true_eq] at ha hb
        rw [ha, hb] at h
        exact absurd h wO
      · exact h

theorem XQ {α : Type} {R : α → α → Prop} (ht : ∀ {x y z}, R x y → R y z → R x z) {l : List α} : l.Pairwise R ↔ ∀ (i : Nat) (a b : α), l[i]? = some a → l[i + 1]? = some b → R a b := by
  constructor
  · intro h i a b ha hb
    obtain ⟨h1, rfl⟩ := List.getElem?_eq_some_iff.1 ha
    obtain ⟨h2, rfl⟩ := List.getElem?_eq_some_iff.1 hb
    exact List.pairwise_iff_getElem.1 h i (i + 1) h1 h2 (by omega)
  · intro h
    refine List.pairwise_iff_getElem.2 fun i j hi hj hij => ?_
    obtain ⟨k, rfl⟩ : ∃ k, j = i + 1 + k := ⟨j - i - 1, by omega⟩
    clear hij
    induction k with
    | zero => exact h i _ _ (List.getElem?_eq_getElem hi) (List.getElem?_eq_getElem hj)
    | succ k ih => exact ht (ih (by omega)) (h (i + 1 + k) _ _ (List.getElem?_eq_getElem (by omega)) (List.getElem?_eq_getElem hj))

def IN (a b : List aB) : Int := if jM a && jM b then hY a b else 0

def zO (l : List aK) (i : Nat) : Bool := !(jM (l.getD i default).Row && !nV (-2) (jE (l.getD i default))) || (decide (i ≠ 0) && (decide (0 < IN (l.getD (i - 1) default).Row (l.getD i default).Row) || (decide (IN (l.getD (i - 1) default).Row (l.getD i default).Row = 0) && decide ((l.getD i default).At ≤ (l.getD (i - 1) default).At))))

theorem JN {l : List aK} : (List.range l.length).any (zO l) = false ↔ (∀ e ∈ l, jM e.Row = true ∧ nV (-2) (jE e) = false) ∧ l.Pairwise ltE := by
  rw [List.any_eq_false, XQ (R := ltE) (fun h1 h2 => VE h1 h2)]
  constructor
  · intro h
    have h' : ∀ i, i < l.length → zO l i = false := fun i hi => by simpa using h i (List.mem_range.2 hi)
    refine ⟨fun e he => ?_, fun i a b ha hb => ?_⟩
    · obtain ⟨i, hi, rfl⟩ := List.mem_iff_getElem.1 he
      have := h' i hi
      unfold zO at this
      rw [Bool.or_eq_false_iff] at this
      have h1 := this.1
      simp only [List.getD_eq_getElem?_getD, List.getElem?_eq_getElem hi, Option.getD_some, Bool.not_eq_false', Bool.and_eq_true, Bool.not_eq_true'] at h1
      exact h1
    · obtain ⟨hi, rfl⟩ := List.getElem?_eq_some_iff.1 ha
      obtain ⟨hj, rfl⟩ := List.getElem?_eq_some_iff.1 hb
      have := h' (i + 1) hj
      have r1 := h' i hi
      unfold zO at this r1
      rw [Bool.or_eq_false_iff] at this r1
      have h1 := this.2
      have r2 := this.1
      have r1 := r1.1
      simp only [List.getD_eq_getElem?_getD, List.getElem?_eq_getElem hi, List.getElem?_eq_getElem hj, Option.getD_some, Bool.not_eq_false', Bool.and_eq_true, Bool.not_eq_true'] at r1 r2
      simp only [List.getD_eq_getElem?_getD, Nat.add_sub_cancel, List.getElem?_eq_getElem hi, List.getElem?_eq_getElem hj, Option.getD_some, ne_eq, Nat.add_eq_zero_iff, Nat.one_ne_zero, and_false, not_false_eq_true, decide_true, Bool.true_and, Bool.or_eq_false_iff, decide_eq_false_iff_not, Bool.and_eq_false_iff, IN, r1.1, r2.1, Bool.and_self, if_true] at h1
      by_cases hc : hY l[i].Row l[i + 1].Row = 0
      · refine .inr ⟨(oU.eq _ _).1 hc, ?_⟩
        rcases h1.2 with h | h
        · exact absurd hc h
        · omega
      · exact .inl (by omega)
  · rintro ⟨h1, h2⟩ i hi
    have hi := List.mem_range.1 hi
    unfold zO
    have ge : l.getD i default = l[i] := by simp [List.getD_eq_getElem?_getD, hi]
    have := h1 l[i] (List.getElem_mem hi)
    rw [ge, this.1, this.2]
    by_cases h0 : i = 0
    · simp [h0]
    · have hi' : i - 1 < l.length := by omega
      have ge' : l.getD (i - 1) default = l[i - 1] := by simp [List.getD_eq_getElem?_getD, hi']
      have h3 := h2 (i - 1) l[i - 1] l[i] (List.getElem?_eq_getElem hi') (by rw [show i - 1 + 1 = i by omega]; exact List.getElem?_eq_getElem hi)
      rw [ge']
      have r1 := (h1 l[i - 1] (List.getElem_mem hi')).1
      unfold IN
      rw [r1, this.1]
      rcases h3 with h3 | ⟨h3, h4⟩
      · have a : ¬ 0 < hY l[i - 1].Row l[i].Row := by omega
        have b : ¬ hY l[i - 1].Row l[i].Row = 0 := by omega
        simp [a, b]
      · have a : hY l[i - 1].Row l[i].Row = 0 := (oU.eq _ _).2 h3
        have b : ¬ l[i].At ≤ l[i - 1].At := by omega
        simp [a, b]

theorem GY {l : List aK} (hl : okL l) : rN l = some (lW l) := by
  unfold rN
  by_cases hn : l.length ≤ 4096
  · have h1 : decide ((4096 : Int) < ((l.length : Nat) : Int)) = false := by simp; omega
    rw [h1, cond_false]
    unfold wD
    have hlp := AR (body := fun s => mO l s) (l := List.range l.length) (fun i => i) (zO l) (.inr false) (.inl ()) ?_ ?_
    · rw [hlp]
      cases hb : (List.range l.length).any (zO l)
      · obtain ⟨h2, h3⟩ := JN.1 hb
        have hr := BL hl (fun e he => (h2 e he).1) (by omega)
        simp only [Bool.false_eq_true, if_false, Option.bind_some, Sum.elim_inl, sR, hr, wG]
        have hrl := GP l
        rw [AR (l := rowsOf l) (fun i => i) (fun r => decide (1024 < (eH l r).length)) (.inr false) (.inl ()) ?_ ?_]
        · cases hc : (rowsOf l).any fun r => decide (1024 < (eH l r).length)
          · have : lW l = true := yS.2 ⟨hn, h2, h3, fun r hr => by
              have := List.any_eq_false.1 hc r hr
              simp only [decide_eq_true_eq] at this; omega⟩
            rw [this]; rfl
          · have : lW l = false := by
              rw [Bool.eq_false_iff]
              intro hm
              obtain ⟨r, hr, h4⟩ := List.any_eq_true.1 hc
              have := (yS.1 hm).2.2.2 r hr
              simp only [decide_eq_true_eq] at h4; omega
            rw [this]; rfl
        · intro i r hi
          obtain ⟨d1, d2, d3, d4⟩ := idx hi (by omega)
          show nQ _ _ _ = _
          simp only [nQ, d1, cond_true, aL d2, d3, d4, xG hl (show l.length ≤ 1099511627776 by omega), Option.bind_some]
          by_cases h : 1024 < (eH l r).length
          · have h' : (1024 : Int) < (((eH l r).length : Nat) : Int) := by omega
            simp [h, h']
          · have h' : ¬ (1024 : Int) < (((eH l r).length : Nat) : Int) := by omega
            simp [h, h']
        · show nQ _ _ _ = _
          simp only [nQ, gH, cond_false]
      · have : lW l = false := by
          rw [Bool.eq_false_iff]
          intro hm
          obtain ⟨_, h2, h3, _⟩ := yS.1 hm
          have := JN.2 ⟨h2, h3⟩
          rw [this] at hb; cases hb
        rw [this]; rfl
    · intro i k hi
      obtain ⟨hi0, hk⟩ := List.getElem?_eq_some_iff.1 hi
      rw [List.getElem_range] at hk
      subst hk
      have hi1 : i < l.length := by simpa using hi0
      have hx := List.getElem?_eq_getElem hi1
      obtain ⟨d1, d2, d3, d4⟩ := idx hx (by omega)
      have hr := hl.2 _ (List.getElem_mem hi1)
      have ge : l.getD i default = l[i] := by simp [List.getD_eq_getElem?_getD, hi1]
      show mO _ _ = _
      simp only [mO, d1, cond_true, aL d2, d3, BE l[i].Row (by omega), Option.bind_some]
      rw [aL (fun _ => d2), aL (fun _ => d2)]
      have hm : oW [⟨l[i].At, l[i].Net⟩] = some (!nV (-2) (jE l[i])) := by
        rw [JZ]
        simp only [kA, chk, List.length_cons, List.length_nil, jE]
        cases nV (-2) ⟨l[i].At, l[i].Net⟩ <;> rfl
      rw [hm]
      unfold zO
      rw [ge]
      cases h2 : jM l[i].Row
      · simp [dA]
      · cases h3 : nV (-2) (jE l[i])
        · simp only [dA, Bool.not_true, Bool.not_false, cond_true, Option.bind_some, Bool.or_self, cond_false, Bool.and_self]
          by_cases h0 : i = 0
          · subst h0
            simp [pG, gS]
          · have hi' : i - 1 < l.length := by omega
            have hw : IntKind.i64.wrap ((i : Int) - 1) = ((i - 1 : Nat) : Int) := by rw [gS (by omega) (by omega)]; omega
            have hx' := List.getElem?_eq_getElem hi'
            obtain ⟨_, e2, e3, _⟩ := idx hx' (by omega)
            have ge' : l.getD (i - 1) default = l[i - 1] := by simp [List.getD_eq_getElem?_getD, hi']
            have hr' := hl.2 _ (List.getElem_mem hi')
            have hz : decide ((i : Int) = 0) = false := by simp; omega
            simp only [hz, cond_false, hw, aL e2, aL d2, e3, d3, ge']
            rw [DW _ _ (by omega) (by omega), show (if (jM l[i - 1].Row && jM l[i].Row) = true then hY l[i - 1].Row l[i].Row else 0) = IN l[i - 1].Row l[i].Row from rfl]
            simp only [Option.bind_some, pG, d4]
            rw [aL (fun _ => e2), aL (fun _ => d2)]
            generalize IN l[i - 1].Row l[i].Row = c
            cases hz2 : (decide (0 < c) || (decide (c = 0) && decide (l[i].At ≤ l[i - 1].At)))
            · simp
            · simp [h0]
        · simp [dA]
    · show mO _ _ = _
      simp only [mO, List.length_range, gH, cond_false]
  · have h1 : decide ((4096 : Int) < ((l.length : Nat) : Int)) = true := by simp; omega
    rw [h1, cond_true]
    simp [lW, hn]

end Go.Abs
namespace Go.Abs
open Go
theorem RJ {c : Int} : ∀ {l : List Int} {m : Int}, c ≤ l.foldl mn m ↔ c ≤ m ∧ ∀ x ∈ l, c ≤ x
  | [], m => by simp
  | a :: l, m => by
    rw [List.foldl_cons, RJ]
    unfold mn
    constructor
    · rintro ⟨h1, h2⟩
      have h3 : c ≤ m ∧ c ≤ a := by split at h1 <;> omega
      refine ⟨h3.1, fun x hx => ?_⟩
      rcases List.mem_cons.1 hx with rfl | hx
      · exact h3.2
      · exact h2 x hx
    · rintro ⟨h1, h2⟩
      have := h2 a (by simp)
      exact ⟨by split <;> omega, fun x hx => h2 x (by simp [hx])⟩

theorem JM {t : Int} : ∀ {f : List aI} {l v : Int}, rV l f → v + val f t = v ∨ v + val f t ∈ parts v f
  | [], l, v, _ => .inl (by simp [val])
  | j :: r, l, v, h => by
    unfold parts
    rw [kK]
    by_cases e : j.At ≤ t
    · rw [if_pos e]
      right
      rcases JM (t := t) (v := v + j.Net) h.2 with h1 | h1
      · rw [show v + (j.Net + val r t) = v + j.Net by omega]; simp
      · rw [show v + (j.Net + val r t) = v + j.Net + val r t by omega]; exact List.mem_cons_of_mem _ h1
    · left
      rw [if_neg e, h.2.yR (by omega)]; omega

theorem zR {f : List aI} (hf : kA f = true) : 0 ≤ sX f ↔ ∀ t, 0 ≤ val f t := by
  have hr := (pT.1 hf).2
  unfold sX
  rw [RJ]
  constructor
  · rintro ⟨_, h2⟩ t
    rcases JM (t := t) (v := 0) hr with h | h
    · omega
    · rw [parts_eq hr] at h
      obtain ⟨j, hj, h⟩ := List.mem_map.1 h
      have := h2 _ (List.mem_map.2 ⟨j, hj, rfl⟩)
      omega
  · intro h
    refine ⟨h _, fun x hx => ?_⟩
    obtain ⟨j, _, rfl⟩ := List.mem_map.1 hx
    exact h _

theorem BD {l : List aK} : pK l = true ↔ lW l = true ∧ ∀ r t, 0 ≤ val (eH l r) t := by
  constructor
  · intro h
    unfold pK at h
    rw [Bool.and_eq_true, vD] at h
    obtain ⟨h1, h2, h3, _⟩ := h
    have hm : lW l = true := by
      unfold lW
      rw [Bool.and_eq_true]
      exact ⟨h1, vD.2 ⟨fun g hg => ⟨(h2 g hg).1, by have := (h2 g hg).2; unfold IS at this; rw [Bool.and_eq_true] at this; exact this.1⟩, h3, fun q hq => by cases hq⟩⟩
    refine ⟨hm, fun r => ?_⟩
    rw [← vM h3]
    rcases HG (groups l) r with ⟨e, _⟩ | ⟨g, hg, _, e⟩
    · rw [e]; intro t; simp [val]
    · rw [e]
      have := (h2 g hg).2
      unfold IS at this
      rw [Bool.and_eq_true, decide_eq_true_eq] at this
      exact (zR this.1).1 this.2
  · rintro ⟨hm, h⟩
    obtain ⟨h1, h2, h3⟩ := rS hm
    unfold pK
    rw [Bool.and_eq_true]
    refine ⟨by simpa using h1, vD.2 ⟨fun g hg => ⟨(h2 g hg).1, ?_⟩, h3, fun q hq => by cases hq⟩⟩
    unfold IS
    rw [Bool.and_eq_true, decide_eq_true_eq]
    refine ⟨(h2 g hg).2, (zR (h2 g hg).2).2 ?_⟩
    have : g.2 = eH l g.1 := by rw [← vM h3, GI h3 hg]
    rw [this]; exact h g.1

theorem NB {l : List aK} {r : List aB} (h : r ∉ rowsOf l) : eH l r = [] :=
  PX fun e he hr => h (BQ.2 ⟨e, he, hr⟩)

theorem OD {l : List aK} (hl : okL l) : rF l = some (pK l) := by
  unfold rF
  rw [GY hl]
  cases hm : lW l
  · have : pK l = false := by
      rw [Bool.eq_false_iff]; intro h
      rw [(BD.1 h).1] at hm; cases hm
    rw [this]; rfl
  · obtain ⟨h1, h2, _⟩ := yS.1 hm
    simp only [Option.bind_some, Bool.not_true, cond_false, BL hl (fun e he => (h2 e he).1) (show l.length ≤ 1099511627776 by omega), tB]
    have hrl := GP l
    rw [AR (l := rowsOf l) (fun i => i) (fun r => decide (sX (eH l r) < 0)) (.inr false) (.inl ()) ?_ ?_]
    · cases hc : (rowsOf l).any fun r => decide (sX (eH l r) < 0)
      · have : pK l = true := BD.2 ⟨hm, fun r => by
          by_cases hr : r ∈ rowsOf l
          · have := List.any_eq_false.1 hc r hr
            simp only [decide_eq_true_eq] at this
            exact (zR (tA hm r)).1 (by omega)
          · rw [NB hr]; intro t; simp [val]⟩
        rw [this]; rfl
      · have : pK l = false := by
          rw [Bool.eq_false_iff]; intro h
          obtain ⟨r, _, hr⟩ := List.any_eq_true.1 hc
          simp only [decide_eq_true_eq] at hr
          have := (zR (tA hm r)).2 ((BD.1 h).2 r)
          omega
        rw [this]; rfl
    · intro i r hi
      obtain ⟨d1, d2, d3, d4⟩ := idx hi (by omega)
      show mG _ _ _ = _
      simp only [mG, d1, cond_true, aL d2, d3, d4, xG hl (show l.length ≤ 1099511627776 by omega), Option.bind_some, PF, tA hm r, if_true]
      by_cases h : sX (eH l r) < 0 <;> simp [h]
    · show mG _ _ _ = _
      simp only [mG, gH, cond_false]

end Go.Abs
namespace Go.Abs
open Go
theorem EY {l : List aK} (hm : lW l = true) : RN l = groups l := by
  obtain ⟨_, _, hp, _⟩ := yS.1 hm
  have hs : Srt leE l := hp.imp fun h => by
    rcases h with h | ⟨h, h'⟩
    · exact .inl h
    · exact .inr ⟨h, by omega⟩
  have hg := BN hs
  unfold RN
  rw [← PY (List.Perm.refl l) hs, List.map_map]
  conv => rhs; rw [← List.map_id (groups l)]
  refine List.map_congr_left fun g hg' => ?_
  simp only [Function.comp, id]
  rw [← vM hg, GI hg hg']

end Go.Abs
namespace Go.Abs
open Go
abbrev gN (d : List Int) (i : Nat) : Int := d.getD i default

def swp (d : List Int) (i j : Nat) : List Int := (d.set i (gN d j)).set j (gN d i)

theorem US {d : List Int} {i k : Nat} {x : Int} (h : i < d.length) : gN (d.set i x) k = if k = i then x else gN d k := by
  simp only [gN, List.getD_eq_getElem?_getD, List.getElem?_set]
  by_cases e : i = k
  · subst e; simp [h]
  · rw [if_neg e, if_neg (fun h => e h.symm)]

theorem gF (d : List Int) (i j : Nat) : (swp d i j).length = d.length := by simp [swp]

theorem rL {d : List Int} {i j : Nat} (hi : i < d.length) (hj : j < d.length) (k : Nat) : gN (swp d i j) k = if k = j then gN d i else if k = i then gN d j else gN d k := by
  unfold swp
  rw [US (by simpa using hj), US hi]

theorem WZ {d : List Int} {i j : Nat} (hi : i < d.length) (hj : j < d.length) : (swp d i j).Perm d := by
  have h1 : gN d i = d[i] := by simp [gN, List.getD_eq_getElem?_getD, List.getElem?_eq_getElem hi]
  have h2 : gN d j = d[j] := by simp [gN, List.getD_eq_getElem?_getD, List.getElem?_eq_getElem hj]
  unfold swp
  rw [h1, h2]
  exact List.set_set_perm hi hj

structure Rel (a b : Nat) (d d' : List Int) : Prop where
  len : d'.length = d.length
  perm : d'.Perm d
  out : ∀ k, k < a ∨ b ≤ k → gN d' k = gN d k
  src : ∀ k, a ≤ k → k < b → ∃ k', a ≤ k' ∧ k' < b ∧ gN d' k = gN d k'

theorem Rel.refl (a b : Nat) (d : List Int) : Rel a b d d := ⟨rfl, .refl _, fun _ _ => rfl, fun k h1 h2 => ⟨k, h1, h2, rfl⟩⟩

theorem Rel.trans {a b : Nat} {d d' d'' : List Int} (h : Rel a b d d') (h' : Rel a b d' d'') : Rel a b d d'' :=
  ⟨h'.len.trans h.len, h'.perm.trans h.perm, fun k hk => (h'.out k hk).trans (h.out k hk), fun k h1 h2 => by
    obtain ⟨k1, a1, a2, a3⟩ := h'.src k h1 h2
    obtain ⟨k2, b1, b2, b3⟩ := h.src k1 a1 a2
    exact ⟨k2, b1, b2, a3.trans b3⟩⟩

theorem Rel.mono {a b a' b' : Nat} {d d' : List Int} (h : Rel a b d d') (h1 : a' ≤ a) (h2 : b ≤ b') : Rel a' b' d d' :=
  ⟨h.len, h.perm, fun k hk => h.out k (by omega), fun k k1 k2 => by
    by_cases hk : a ≤ k ∧ k < b
    · obtain ⟨k', c1, c2, c3⟩ := h.src k hk.1 hk.2
      exact ⟨k', by omega, by omega, c3⟩
    · exact ⟨k, k1, k2, h.out k (by omega)⟩⟩

theorem Rel.swp {a b : Nat} {d : List Int} {i j : Nat} (hi : i < d.length) (hj : j < d.length) (h1 : a ≤ i ∧ i < b) (h2 : a ≤ j ∧ j < b) : Rel a b d (swp d i j) :=
  ⟨gF .., WZ hi hj, fun k hk => by rw [rL hi hj, if_neg (by omega), if_neg (by omega)], fun k k1 k2 => by
    rw [rL hi hj]
    split
    · exact ⟨i, h1.1, h1.2, rfl⟩
    · split
      · exact ⟨j, h2.1, h2.2, rfl⟩
      · exact ⟨k, k1, k2, rfl⟩⟩

theorem Rel.all {a b : Nat} {d d' : List Int} (h : Rel a b d d') {p : Int → Prop} (hp : ∀ k, a ≤ k → k < b → p (gN d k)) : ∀ k, a ≤ k → k < b → p (gN d' k) := fun k k1 k2 => by
  obtain ⟨k', c1, c2, c3⟩ := h.src k k1 k2
  rw [c3]; exact hp k' c1 c2

def nY (a b : Nat) (d : List Int) : Prop := ∀ p q, a ≤ p → p ≤ q → q < b → gN d p ≤ gN d q

theorem qM (a b : Int) : dB a b = some (decide (a < b)) := by simp [dB, kL, dA]

theorem wrN {x : Int} {n : Nat} (h : x = (n : Int)) (hn : n ≤ 9000000000000000000) : IntKind.i64.wrap x = (n : Int) := by
  rw [gS (by omega) (by omega), h]

theorem asN {i n : Nat} (h : i < n) : 0 ≤ (i : Int) ∧ (i : Int) < ((n : Nat) : Int) := by omega

theorem NW {a b i : Int} {d : List Int} {lo j : Nat} (ha : a = (lo : Nat)) (h1 : lo ≤ j) (hj : j < d.length) (hl : d.length < 4611686018427387904) :
    eS a b i d (j : Nat) = if lo < j ∧ gN d j < gN d (j - 1) then some (.inl (swp d j (j - 1), ((j - 1 : Nat) : Int))) else some (.inr d) := by
  subst ha
  unfold eS
  by_cases h : lo < j
  · have e1 : IntKind.i64.wrap ((j : Int) - 1) = ((j - 1 : Nat) : Int) := wrN (by omega) (by omega)
    have d1 : decide (((lo : Nat) : Int) < ((j : Nat) : Int)) = true := by simp; omega
    rw [e1, d1]
    simp only [true_and, Int.toNat_natCast, qM, dA, cond_true, Option.bind_some, Bool.true_and]
    rw [aL fun _ => asN hj, aL fun _ => asN (by omega)]
    by_cases h2 : gN d j < gN d (j - 1)
    · rw [if_pos ⟨h, h2⟩]
      simp only [gN] at h2
      simp only [h2, decide_true, cond_true]
      rw [aL (asN (by omega)), aL (asN hj), aL (asN hj), aL (asN (by omega))]
      rfl
    · rw [if_neg (fun hh => h2 hh.2)]
      simp only [gN] at h2
      simp only [h2, decide_false, cond_false]
  · have d1 : decide (((lo : Nat) : Int) < ((j : Nat) : Int)) = false := by simp; omega
    rw [if_neg (fun hh => h hh.1), d1]
    simp only [Bool.false_eq_true, false_implies, dA, cond_false, Option.bind_some, Bool.false_and]
    rw [aL trivial, aL trivial]

structure CS (a j i : Nat) (d : List Int) : Prop where
  oth : ∀ p q, a ≤ p → p ≤ q → q ≤ i → p ≠ j → q ≠ j → gN d p ≤ gN d q
  up : ∀ q, j < q → q ≤ i → gN d j ≤ gN d q

theorem CS.done {a j i : Nat} {d : List Int} (h : CS a j i d) (hj : a ≤ j) (hn : ¬ (a < j ∧ gN d j < gN d (j - 1))) : nY a (i + 1) d := by
  intro p q h1 h2 h3
  by_cases hp : p = j
  · by_cases hq : q = j
    · subst hp; subst hq; exact Int.le_refl _
    · subst hp; exact h.up q (by omega) (by omega)
  · by_cases hq : q = j
    · subst hq
      have h4 : ¬ gN d q < gN d (q - 1) := fun hh => hn ⟨by omega, hh⟩
      have := h.oth p (q - 1) h1 (by omega) (by omega) hp (by omega)
      omega
    · exact h.oth p q h1 h2 (by omega) hp hq

theorem CS.next {a j i : Nat} {d : List Int} (h : CS a j i d) (hj : a < j) (hji : j ≤ i) (hi : i < d.length) (hlt : gN d j < gN d (j - 1)) : CS a (j - 1) i (swp d j (j - 1)) := by
  have g := rL (d := d) (i := j) (j := j - 1) (by omega) (by omega)
  refine ⟨fun p q h1 h2 h3 hp hq => ?_, fun q h1 h2 => ?_⟩
  · rw [g, g, if_neg hp, if_neg hq]
    by_cases hpj : p = j
    · rw [if_pos hpj]
      by_cases hqj : q = j
      · rw [if_pos hqj]; exact Int.le_refl _
      · rw [if_neg hqj]; exact h.oth (j - 1) q (by omega) (by omega) h3 (by omega) hqj
    · rw [if_neg hpj]
      by_cases hqj : q = j
      · rw [if_pos hqj]; exact h.oth p (j - 1) h1 (by omega) (by omega) hpj (by omega)
      · rw [if_neg hqj]; exact h.oth p q h1 h2 h3 hpj hqj
  · rw [g, g, if_pos rfl, if_neg (by omega)]
    by_cases hqj : q = j
    · rw [if_pos hqj]; omega
    · rw [if_neg hqj]; exact h.up q (by omega) h2

theorem aAN {a b i : Int} {lo hi : Nat} (ha : a = (lo : Nat)) : ∀ (j : Nat) (d : List Int), lo ≤ j → j ≤ hi → hi < d.length → d.length < 4611686018427387904 → CS lo j hi d →
    ∃ d', lp (fun s : List Int × Int => eS a b i s.1 s.2) (d, (j : Int)) = some d' ∧ Rel lo (hi + 1) d d' ∧ nY lo (hi + 1) d' := by
  intro j
  induction j with
  | zero =>
    intro d h1 h2 h3 h4 h5
    have hs := NW (a := a) (b := b) (i := i) ha h1 (by omega) h4 (d := d)
    rw [if_neg (by omega)] at hs
    exact ⟨d, cR hs, Rel.refl .., h5.done h1 (by omega)⟩
  | succ j ih =>
    intro d h1 h2 h3 h4 h5
    have hs := NW (a := a) (b := b) (i := i) ha h1 (by omega) h4 (d := d)
    by_cases h : lo < j + 1 ∧ gN d (j + 1) < gN d (j + 1 - 1)
    · rw [if_pos h] at hs
      obtain ⟨d', e, r, s⟩ := ih (swp d (j + 1) (j + 1 - 1)) (by omega) (by omega) (by rw [gF]; omega) (by rw [gF]; omega) (h5.next h.1 h2 h3 h.2)
      exact ⟨d', (eZ hs).trans e, (Rel.swp (by omega) (by omega) (by omega) (by omega)).trans r, s⟩
    · rw [if_neg h] at hs
      exact ⟨d, cR hs, Rel.refl .., h5.done h1 h⟩

theorem PV {a b : Int} {lo hi : Nat} (ha : a = (lo : Nat)) (hb : b = (hi : Nat)) : ∀ (n i : Nat) (d : List Int), hi - i = n → lo < i → hi ≤ d.length → d.length < 4611686018427387904 → nY lo i d → (i ≤ hi ∨ hi ≤ i) →
    ∃ d', lp (fun s : List Int × Int => dF a b s.1 s.2) (d, (i : Int)) = some d' ∧ Rel lo hi d d' ∧ nY lo hi d' := by
  intro n
  induction n with
  | zero =>
    intro i d h1 h2 h3 h4 h5 _
    refine ⟨d, cR ?_, Rel.refl .., fun p q p1 p2 p3 => h5 p q p1 p2 (by omega)⟩
    show dF _ _ _ _ = _
    have : decide (((i : Nat) : Int) < b) = false := by simp; omega
    simp only [dF, this, cond_false]
  | succ n ih =>
    intro i d h1 h2 h3 h4 h5 _
    obtain ⟨d1, e, r, s⟩ := aAN (a := a) (b := b) (i := (i : Int)) (hi := i) ha i d (by omega) (Nat.le_refl _) (by omega) h4 ⟨fun p q p1 p2 p3 p4 p5 => h5 p q p1 p2 (by omega), fun q q1 q2 => by omega⟩
    obtain ⟨d2, e2, r2, s2⟩ := ih (i + 1) d1 (by omega) (by omega) (by rw [r.len]; exact h3) (by rw [r.len]; exact h4) s (by omega)
    refine ⟨d2, ?_, (r.mono (Nat.le_refl _) (by omega)).trans r2, s2⟩
    rw [eZ (s' := (d1, ((i + 1 : Nat) : Int))) ?_, e2]
    show dF _ _ _ _ = _
    have : decide (((i : Nat) : Int) < b) = true := by simp; omega
    simp only [dF, this, cond_true, iS]
    rw [e]
    simp only [Option.bind_some, fU]
    rw [wrN (n := i + 1) (by omega) (by omega)]

theorem FU (lo : Nat) (d : List Int) : nY lo (lo + 1) d := fun p q p1 p2 p3 => by
  have : p = q := by omega
  subst this
  exact Int.le_refl _

theorem XB {lo hi : Nat} {d : List Int} (h3 : hi ≤ d.length) (h4 : d.length < 4611686018427387904) (h0 : lo ≤ hi) : ∃ d', gE d (lo : Int) (hi : Int) = some d' ∧ Rel lo hi d d' ∧ nY lo hi d' := by
  unfold gE iQ
  obtain ⟨d', e, r, s⟩ := PV (a := (lo : Int)) (b := (hi : Int)) (lo := lo) (hi := hi) rfl rfl (hi - (lo + 1)) (lo + 1) d rfl (by omega) h3 h4 (FU lo d) (by omega)
  rw [wrN (n := lo + 1) (by omega) (by omega), e]
  exact ⟨d', rfl, r, s⟩

theorem aAG {lo hi : Nat} : ∀ (n i j : Nat) (d : List Int), j + 1 - i = n → lo ≤ i → j + 1 ≤ hi ∨ j ≤ i → hi ≤ d.length → d.length < 4611686018427387904 → i < 4611686018427387904 → j < 4611686018427387904 →
    ∃ d', lp (fun s : List Int × Int × Int => dJ s.1 s.2.1 s.2.2) (d, (i : Int), (j : Int)) = some d' ∧ Rel lo hi d d' := by
  intro n
  induction n using Nat.strongRecOn with
  | ind n ih =>
    intro i j d h1 h2 h3 h4 h5 h6 h7
    by_cases h : i < j
    · obtain ⟨d', e, r⟩ := ih (j - 1 + 1 - (i + 1)) (by omega) (i + 1) (j - 1) (swp d i j) rfl (by omega) (by omega) (by rw [gF]; exact h4) (by rw [gF]; exact h5) (by omega) (by omega)
      refine ⟨d', ?_, (Rel.swp (by omega) (by omega) (by omega) (by omega)).trans r⟩
      rw [eZ (s' := (swp d i j, ((i + 1 : Nat) : Int), ((j - 1 : Nat) : Int))) ?_, e]
      show dJ _ _ _ = _
      have : decide (((i : Nat) : Int) < ((j : Nat) : Int)) = true := by simp; omega
      simp only [dJ, this, cond_true, Int.toNat_natCast]
      rw [aL (asN (by omega)), aL (asN (by omega)), aL (asN (by omega)), aL (asN (by omega)), wrN (n := i + 1) (by omega) (by omega), wrN (n := j - 1) (by omega) (by omega)]
      rfl
    · refine ⟨d, cR ?_, Rel.refl ..⟩
      show dJ _ _ _ = _
      have : decide (((i : Nat) : Int) < ((j : Nat) : Int)) = false := by simp; omega
      simp only [dJ, this, cond_false]

theorem UO {lo hi : Nat} {d : List Int} (h0 : lo < hi) (h3 : hi ≤ d.length) (h4 : d.length < 4611686018427387904) : ∃ d', gP d (lo : Int) (hi : Int) = some d' ∧ Rel lo hi d d' := by
  unfold gP iY
  obtain ⟨d', e, r⟩ := aAG (lo := lo) (hi := hi) (hi - 1 + 1 - lo) lo (hi - 1) d rfl (Nat.le_refl _) (by omega) h3 h4 (by omega) (by omega)
  rw [wrN (n := hi - 1) (by omega) (by omega), e]
  exact ⟨d', rfl, r⟩

end Go.Abs
namespace Go.Abs
open Go
def wC (f hi : Nat) (d : List Int) (r : Nat) : Nat := if 2 * r + 2 < hi ∧ gN d (f + (2 * r + 1)) < gN d (f + (2 * r + 2)) then 2 * r + 2 else 2 * r + 1

theorem JJ {f hi r c : Nat} {d : List Int} (hf : f + hi ≤ d.length) (hr : r < hi) (hc : c < hi) (hl : d.length < 2305843009213693951) :
    fW d (hi : Nat) (f : Nat) (r : Nat) (c : Nat) = if gN d (f + r) < gN d (f + c) then some (.inl (swp d (f + r) (f + c), (c : Int))) else some (.inr (.inr d)) := by
  unfold fW
  have e1 : IntKind.i64.wrap ((f : Int) + (r : Int)) = ((f + r : Nat) : Int) := wrN (by omega) (by omega)
  have e2 : IntKind.i64.wrap ((f : Int) + (c : Int)) = ((f + c : Nat) : Int) := wrN (by omega) (by omega)
  rw [e1, e2]
  simp only [Int.toNat_natCast, qM, Option.bind_some]
  rw [aL (asN (by omega)), aL (asN (by omega))]
  by_cases h : gN d (f + r) < gN d (f + c)
  · rw [if_pos h]
    simp only [gN] at h
    simp only [h, decide_true, Bool.not_true, cond_false]
    rw [aL (asN (by omega)), aL (asN (by omega)), aL (asN (by omega)), aL (asN (by omega))]
    rfl
  · rw [if_neg h]
    simp only [gN] at h
    simp only [h, decide_false, Bool.not_false, cond_true]

theorem VL {f hi r : Nat} {d : List Int} (hf : f + hi ≤ d.length) (hr : r < hi) (hl : d.length < 2305843009213693951) :
    cZ (hi : Nat) (f : Nat) d (r : Nat) = if hi ≤ 2 * r + 1 then some (.inr (.inl d)) else if gN d (f + r) < gN d (f + wC f hi d r) then some (.inl (swp d (f + r) (f + wC f hi d r), (wC f hi d r : Int))) else some (.inr (.inr d)) := by
  unfold cZ
  have e1 : IntKind.i64.wrap (IntKind.i64.wrap ((2 : Int) * (r : Int)) + 1) = ((2 * r + 1 : Nat) : Int) := by
    rw [wrN (x := (2 : Int) * (r : Int)) (n := 2 * r) (by omega) (by omega)]; exact wrN (by omega) (by omega)
  have e2 : IntKind.i64.wrap (((2 * r + 1 : Nat) : Int) + 1) = ((2 * r + 2 : Nat) : Int) := wrN (by omega) (by omega)
  simp only [e1, e2]
  by_cases h : hi ≤ 2 * r + 1
  · rw [if_pos h]
    have : decide (((hi : Nat) : Int) ≤ ((2 * r + 1 : Nat) : Int)) = true := by simp; omega
    rw [this, cond_true]
  · rw [if_neg h]
    have d1 : decide (((hi : Nat) : Int) ≤ ((2 * r + 1 : Nat) : Int)) = false := by simp; omega
    rw [d1, cond_false]
    by_cases h2 : 2 * r + 2 < hi
    · have d2 : decide (((2 * r + 2 : Nat) : Int) < ((hi : Nat) : Int)) = true := by simp; omega
      have e3 : IntKind.i64.wrap ((f : Int) + ((2 * r + 1 : Nat) : Int)) = ((f + (2 * r + 1) : Nat) : Int) := wrN (by omega) (by omega)
      have e4 : IntKind.i64.wrap (((f + (2 * r + 1) : Nat) : Int) + 1) = ((f + (2 * r + 2) : Nat) : Int) := wrN (by omega) (by omega)
      simp only [d2, e3, e4, Int.toNat_natCast, qM, dA, cond_true, Option.bind_some, Bool.true_and]
      rw [aL fun _ => asN (by omega), aL fun _ => asN (by omega)]
      by_cases h3 : gN d (f + (2 * r + 1)) < gN d (f + (2 * r + 2))
      · have hb : wC f hi d r = 2 * r + 2 := if_pos ⟨h2, h3⟩
        simp only [gN] at h3
        simp only [h3, decide_true, cond_true]
        rw [JJ hf hr h2 hl, hb]
      · have hb : wC f hi d r = 2 * r + 1 := if_neg fun hh => h3 hh.2
        simp only [gN] at h3
        simp only [h3, decide_false, cond_false]
        rw [JJ hf hr (by omega) hl, hb]
    · have d2 : decide (((2 * r + 2 : Nat) : Int) < ((hi : Nat) : Int)) = false := by simp; omega
      have hb : wC f hi d r = 2 * r + 1 := if_neg fun hh => h2 hh.1
      simp only [d2, Bool.false_eq_true, false_implies, dA, cond_false, Option.bind_some, Bool.false_and]
      rw [aL trivial, aL trivial, JJ hf hr (by omega) hl, hb]

def chd (c p : Nat) : Prop := c = 2 * p + 1 ∨ c = 2 * p + 2

def Hp (f lo hi : Nat) (d : List Int) : Prop := ∀ i c, lo ≤ i → chd c i → c < hi → gN d (f + c) ≤ gN d (f + i)

structure HpX (f lo hi r : Nat) (d : List Int) : Prop where
  oth : ∀ i c, lo ≤ i → i ≠ r → chd c i → c < hi → gN d (f + c) ≤ gN d (f + i)
  up : ∀ p c, lo ≤ p → chd r p → chd c r → c < hi → gN d (f + c) ≤ gN d (f + p)

theorem UA {f hi r : Nat} {d : List Int} (h : ¬ hi ≤ 2 * r + 1) : chd (wC f hi d r) r ∧ wC f hi d r < hi ∧ ∀ c, chd c r → c < hi → gN d (f + c) ≤ gN d (f + wC f hi d r) := by
  unfold wC
  split
  · rename_i h1
    refine ⟨.inr rfl, h1.1, fun c hc hlt => ?_⟩
    rcases hc with rfl | rfl
    · omega
    · exact Int.le_refl _
  · rename_i h1
    refine ⟨.inl rfl, by omega, fun c hc hlt => ?_⟩
    rcases hc with rfl | rfl
    · exact Int.le_refl _
    · have : ¬ gN d (f + (2 * r + 1)) < gN d (f + (2 * r + 2)) := fun hh => h1 ⟨hlt, hh⟩
      omega

theorem HpX.done {f lo hi r : Nat} {d : List Int} (h : HpX f lo hi r d) (hr : ∀ c, chd c r → c < hi → gN d (f + c) ≤ gN d (f + r)) : Hp f lo hi d := by
  intro i c h1 h2 h3
  by_cases e : i = r
  · subst e; exact hr c h2 h3
  · exact h.oth i c h1 e h2 h3

theorem HpX.next {f lo hi r c : Nat} {d : List Int} (h : HpX f lo hi r d) (hf : f + hi ≤ d.length) (hlo : lo ≤ r) (hrh : r < hi) (hc : chd c r) (hch : c < hi) (hbig : ∀ k, chd k r → k < hi → gN d (f + k) ≤ gN d (f + c)) (hlt : gN d (f + r) < gN d (f + c)) : HpX f lo hi c (swp d (f + r) (f + c)) := by
  have g := rL (d := d) (i := f + r) (j := f + c) (by omega) (by omega)
  have hcr : r < c := by unfold chd at hc; omega
  refine ⟨fun i k h1 h2 h3 h4 => ?_, fun p k h1 h2 h3 h4 => ?_⟩
  · rw [g, g, if_neg (show ¬ f + i = f + c by omega)]
    by_cases hir : i = r
    · subst hir
      rw [if_pos (show f + i = f + i from rfl)]
      by_cases hkc : k = c
      · subst hkc; rw [if_pos rfl]; omega
      · rw [if_neg (by omega), if_neg (by unfold chd at h3; omega)]
        exact hbig k h3 h4
    · rw [if_neg (show ¬ f + i = f + r by omega)]
      have hkc : k ≠ c := by intro e; subst e; unfold chd at h3 hc; omega
      rw [if_neg (by omega)]
      by_cases hkr : k = r
      · subst hkr
        rw [if_pos rfl]
        exact h.up i c h1 h3 hc hch
      · rw [if_neg (by omega)]
        exact h.oth i k h1 hir h3 h4
  · have hp : p = r := by unfold chd at h2 hc; omega
    subst hp
    have hk : c < k := by unfold chd at h3; omega
    rw [g, g, if_neg (by omega), if_neg (by omega), if_neg (by omega), if_pos rfl]
    exact h.oth c k (by omega) (by omega) h3 h4

theorem YZ {f lo hi : Nat} : ∀ (n r : Nat) (d : List Int), hi - r = n → f + hi ≤ d.length → lo ≤ r → r < hi → d.length < 2305843009213693951 → HpX f lo hi r d →
    ∃ d', (lp (fun s : List Int × Int => cZ (hi : Nat) (f : Nat) s.1 s.2) (d, (r : Int)) = some (.inl d') ∨ lp (fun s : List Int × Int => cZ (hi : Nat) (f : Nat) s.1 s.2) (d, (r : Int)) = some (.inr d')) ∧ Rel f (f + hi) d d' ∧ Hp f lo hi d' := by
  intro n
  induction n using Nat.strongRecOn with
  | ind n ih =>
    intro r d h1 h2 h3 h4 h5 h6
    have hs := VL h2 h4 h5
    by_cases h : hi ≤ 2 * r + 1
    · rw [if_pos h] at hs
      exact ⟨d, .inl (cR hs), Rel.refl .., h6.done fun c hc hlt => by unfold chd at hc; omega⟩
    · rw [if_neg h] at hs
      obtain ⟨b1, b2, b3⟩ := UA (f := f) (d := d) h
      by_cases hlt : gN d (f + r) < gN d (f + wC f hi d r)
      · rw [if_pos hlt] at hs
        have hb : r < wC f hi d r := by unfold chd at b1; omega
        obtain ⟨d', e, rl, hp⟩ := ih (hi - wC f hi d r) (by omega) (wC f hi d r) _ rfl (by rw [gF]; exact h2) (by omega) b2 (by rw [gF]; exact h5) (h6.next h2 h3 h4 b1 b2 b3 hlt)
        exact ⟨d', e.imp (fun e => (eZ hs).trans e) (fun e => (eZ hs).trans e), (Rel.swp (by omega) (by omega) (by omega) (by omega)).trans rl, hp⟩
      · rw [if_neg hlt] at hs
        exact ⟨d, .inr (cR hs), Rel.refl .., h6.done fun c hc hc2 => by have := b3 c hc hc2; omega⟩

theorem QG {f lo hi : Nat} {d : List Int} (h2 : f + hi ≤ d.length) (h5 : d.length < 2305843009213693951) (hlo : lo < 2305843009213693951) (h6 : HpX f lo hi lo d) :
    ∃ d', fB d (lo : Nat) (hi : Nat) (f : Nat) = some d' ∧ Rel f (f + hi) d d' ∧ Hp f lo hi d' := by
  unfold fB jY
  by_cases h : lo < hi
  · obtain ⟨d', e, r, p⟩ := YZ (hi - lo) lo d rfl h2 (Nat.le_refl _) h h5 h6
    rcases e with e | e <;> rw [e] <;> exact ⟨d', rfl, r, p⟩
  · refine ⟨d, ?_, Rel.refl .., fun i c h1 hc hlt => by unfold chd at hc; omega⟩
    have hs : cZ (hi : Nat) (f : Nat) d (lo : Nat) = some (.inr (.inl d)) := by
      unfold cZ
      have e1 : IntKind.i64.wrap (IntKind.i64.wrap ((2 : Int) * (lo : Int)) + 1) = ((2 * lo + 1 : Nat) : Int) := by
        rw [wrN (x := (2 : Int) * (lo : Int)) (n := 2 * lo) (by omega) (by omega)]; exact wrN (by omega) (by omega)
      have : decide (((hi : Nat) : Int) ≤ ((2 * lo + 1 : Nat) : Int)) = true := by simp; omega
      simp only [e1, this, cond_true]
    rw [cR (show (fun s : List Int × Int => cZ (hi : Nat) (f : Nat) s.1 s.2) (d, (lo : Int)) = _ from hs)]
    rfl

theorem WL {f k : Nat} {d : List Int} (h : Hp f 0 k d) : ∀ i, i < k → gN d (f + i) ≤ gN d f := by
  intro i
  induction i using Nat.strongRecOn with
  | ind i ih =>
    intro hi
    by_cases h0 : i = 0
    · subst h0; exact Int.le_refl _
    · have h1 := h ((i - 1) / 2) i (Nat.zero_le _) (by unfold chd; omega) hi
      have h2 := ih ((i - 1) / 2) (by omega) (by omega)
      omega

theorem QV {f hi : Nat} : ∀ (k : Nat) (d : List Int), f + hi ≤ d.length → k < 2305843009213693951 → d.length < 2305843009213693951 → Hp f k hi d →
    ∃ d', lp (fun s : List Int × Int => dY (f : Nat) 0 (hi : Nat) s.1 s.2) (d, (k : Int) - 1) = some d' ∧ Rel f (f + hi) d d' ∧ Hp f 0 hi d'
  | 0, d, _, _, _, h => by
    refine ⟨d, cR ?_, Rel.refl .., h⟩
    show dY _ _ _ _ _ = _
    have : decide ((0 : Int) ≤ ((0 : Nat) : Int) - 1) = false := by simp
    simp only [dY, this, cond_false]
  | k + 1, d, h1, h2, h3, h => by
    obtain ⟨d1, e, r, p⟩ := QG (f := f) (lo := k) (hi := hi) h1 h3 (by omega) ⟨fun i c a1 a2 a3 a4 => h i c (by omega) a3 a4, fun p c a1 a2 => by unfold chd at a2; omega⟩
    obtain ⟨d2, e2, r2, p2⟩ := QV (f := f) (hi := hi) k d1 (by rw [r.len]; exact h1) (by omega) (by rw [r.len]; exact h3) p
    refine ⟨d2, ?_, r.trans r2, p2⟩
    rw [eZ (s' := (d1, (k : Int) - 1)) ?_, e2]
    show dY _ _ _ _ _ = _
    have g1 : (((k + 1 : Nat) : Int) - 1) = (k : Int) := by omega
    have g2 : decide ((0 : Int) ≤ (k : Int)) = true := by simp
    simp only [dY, g1, g2, cond_true, e, Option.bind_some]
    rw [gS (by omega) (by omega)]

theorem VG {f n : Nat} : ∀ (k : Nat) (d : List Int), k ≤ n → f + n ≤ d.length → d.length < 2305843009213693951 → Hp f 0 k d → nY (f + k) (f + n) d → (∀ p q, f ≤ p → p < f + k → f + k ≤ q → q < f + n → gN d p ≤ gN d q) →
    ∃ d', lp (fun s : List Int × Int => dZ (f : Nat) 0 s.1 s.2) (d, (k : Int) - 1) = some d' ∧ Rel f (f + n) d d' ∧ nY f (f + n) d'
  | 0, d, _, _, _, _, hs, _ => by
    refine ⟨d, cR ?_, Rel.refl .., hs⟩
    show dZ _ _ _ _ = _
    have : decide ((0 : Int) ≤ ((0 : Nat) : Int) - 1) = false := by simp
    simp only [dZ, this, cond_false]
  | k + 1, d, h1, h2, h3, h, hs, hb => by
    have g := rL (d := d) (i := f) (j := f + k) (by omega) (by omega)
    have hroot := WL h
    obtain ⟨d1, e, r, p⟩ := QG (f := f) (lo := 0) (hi := k) (d := swp d f (f + k)) (by rw [gF]; omega) (by rw [gF]; exact h3) (by omega) ⟨fun i c a1 a2 a3 a4 => by
      rw [g, g, if_neg (by unfold chd at a3; omega), if_neg (by unfold chd at a3; omega), if_neg (by unfold chd at a3; omega), if_neg (by omega)]
      exact h i c (by omega) a3 (by omega), fun p c a1 a2 => by unfold chd at a2; omega⟩
    have rs : Rel f (f + n) d (swp d f (f + k)) := Rel.swp (i := f) (j := f + k) (by omega) (by omega) (by omega) (by omega)
    have top : gN d1 (f + k) = gN d f := by rw [r.out _ (by omega), g, if_pos rfl]
    have tail : ∀ q, f + k < q → gN d1 q = gN d q := fun q hq => by rw [r.out _ (by omega), g, if_neg (by omega), if_neg (by omega)]
    have low : ∀ p, f ≤ p → p < f + k → ∃ p', f ≤ p' ∧ p' < f + (k + 1) ∧ gN d1 p = gN d p' := fun p p1 p2 => by
      obtain ⟨p', a1, a2, a3⟩ := r.src p p1 p2
      rw [g, if_neg (by omega)] at a3
      by_cases hp : p' = f
      · rw [if_pos hp] at a3; exact ⟨f + k, by omega, by omega, a3⟩
      · rw [if_neg hp] at a3; exact ⟨p', a1, by omega, a3⟩
    obtain ⟨d2, e2, r2, s2⟩ := VG (f := f) (n := n) k d1 (by omega) (by rw [r.len, gF]; exact h2) (by rw [r.len, gF]; exact h3) p (fun p q p1 p2 p3 => by
      by_cases hq : q = f + k
      · have : p = f + k := by omega
        rw [hq, this]; exact Int.le_refl _
      · rw [tail q (by omega)]
        by_cases hp : p = f + k
        · rw [hp, top]; exact hb f q (Nat.le_refl _) (by omega) (by omega) p3
        · rw [tail p (by omega)]; exact hs p q (by omega) p2 p3) (fun p q p1 p2 p3 p4 => by
      obtain ⟨p', a1, a2, a3⟩ := low p p1 p2
      rw [a3]
      by_cases hq : q = f + k
      · rw [hq, top]
        have := hroot (p' - f) (by omega)
        rw [show f + (p' - f) = p' by omega] at this
        exact this
      · rw [tail q (by omega)]; exact hb p' q a1 a2 (by omega) p4)
    refine ⟨d2, ?_, (rs.trans (r.mono (Nat.le_refl _) (by omega))).trans r2, s2⟩
    rw [eZ (s' := (d1, (k : Int) - 1)) ?_, e2]
    show dZ _ _ _ _ = _
    have g1 : (((k + 1 : Nat) : Int) - 1) = (k : Int) := by omega
    have g2 : decide ((0 : Int) ≤ (k : Int)) = true := by simp
    have g3 : IntKind.i64.wrap ((f : Int) + (k : Int)) = ((f + k : Nat) : Int) := wrN (by omega) (by omega)
    simp only [dZ, g1, g2, g3, cond_true, Int.toNat_natCast]
    rw [aL (asN (by omega)), aL (asN (by omega)), aL (asN (by omega)), aL (asN (by omega))]
    have e' : fB (List.set (List.set d f (List.getD d (f + k) default)) (f + k) (List.getD d f default)) 0 (k : Int) (f : Int) = some d1 := e
    rw [e']
    simp only [Option.bind_some]
    rw [gS (by omega) (by omega)]

theorem VI {lo hi : Nat} {d : List Int} (h0 : lo < hi) (h1 : hi ≤ d.length) (h3 : d.length < 2305843009213693951) : ∃ d', iW d (lo : Int) (hi : Int) = some d' ∧ Rel lo hi d d' ∧ nY lo hi d' := by
  unfold iW
  rw [aL (by decide)]
  have e1 : IntKind.i64.wrap ((hi : Int) - (lo : Int)) = ((hi - lo : Nat) : Int) := wrN (by omega) (by omega)
  have e2 : IntKind.i64.wrap (((hi - lo : Nat) : Int) - 1) = ((hi - lo - 1 : Nat) : Int) := wrN (by omega) (by omega)
  have e3 : IntKind.i64.wrap (Int.tdiv ((hi - lo - 1 : Nat) : Int) 2) = (((hi - lo - 1) / 2 + 1 : Nat) : Int) - 1 := by
    have : Int.tdiv ((hi - lo - 1 : Nat) : Int) 2 = (((hi - lo - 1) / 2 : Nat) : Int) := by rw [Int.tdiv_eq_ediv_of_nonneg (by omega)]; omega
    rw [this, wrN (n := (hi - lo - 1) / 2) rfl (by omega)]; omega
  rw [e1, e2, e3]
  unfold jW
  obtain ⟨d1, a1, r1, p1⟩ := QV (f := lo) (hi := hi - lo) ((hi - lo - 1) / 2 + 1) d (by omega) (by omega) h3 (fun i c b1 b2 b3 => by unfold chd at b2; omega)
  rw [a1]
  simp only [Option.bind_some, iO, jX]
  obtain ⟨d2, a2, r2, s2⟩ := VG (f := lo) (n := hi - lo) (hi - lo) d1 (Nat.le_refl _) (by rw [r1.len]; omega) (by rw [r1.len]; exact h3) p1 (fun p q b1 b2 b3 => by omega) (fun p q b1 b2 b3 b4 => by omega)
  have e4 : IntKind.i64.wrap (((hi - lo : Nat) : Int) - 1) = ((hi - lo : Nat) : Int) - 1 := gS (by omega) (by omega)
  rw [e4, a2]
  have : lo + (hi - lo) = hi := by omega
  rw [this] at r1 r2 s2
  exact ⟨d2, rfl, r1.trans r2, s2⟩

end Go.Abs
namespace Go.Abs
open Go
def FK : ByteArray := ⟨#[0, 1, 2, 2, 3, 3, 3, 3, 4, 4, 4, 4, 4, 4, 4, 4, 5, 5, 5, 5, 5, 5, 5, 5, 5, 5, 5, 5, 5, 5, 5, 5, 6, 6, 6, 6, 6, 6, 6, 6, 6, 6, 6, 6, 6, 6, 6, 6, 6, 6, 6, 6, 6, 6, 6, 6, 6, 6, 6, 6, 6, 6, 6, 6, 7, 7, 7, 7, 7, 7, 7, 7, 7, 7, 7, 7, 7, 7, 7, 7, 7, 7, 7, 7, 7, 7, 7, 7, 7, 7, 7, 7, 7, 7, 7, 7, 7, 7, 7, 7, 7, 7, 7, 7, 7, 7, 7, 7, 7, 7, 7, 7, 7, 7, 7, 7, 7, 7, 7, 7, 7, 7, 7, 7, 7, 7, 7, 7, 8, 8, 8, 8, 8, 8, 8, 8, 8, 8, 8, 8, 8, 8, 8, 8, 8, 8, 8, 8, 8, 8, 8, 8, 8, 8, 8, 8, 8, 8, 8, 8, 8, 8, 8, 8, 8, 8, 8, 8, 8, 8, 8, 8, 8, 8, 8, 8, 8, 8, 8, 8, 8, 8, 8, 8, 8, 8, 8, 8, 8, 8, 8, 8, 8, 8, 8, 8, 8, 8, 8, 8, 8, 8, 8, 8, 8, 8, 8, 8, 8, 8, 8, 8, 8, 8, 8, 8, 8, 8, 8, 8, 8, 8, 8, 8, 8, 8, 8, 8, 8, 8, 8, 8, 8, 8, 8, 8, 8, 8, 8, 8, 8, 8, 8, 8, 8, 8, 8, 8, 8, 8, 8, 8, 8, 8, 8, 8]⟩

theorem TU : ∀ i : Fin 256, i.val ≠ 0 → ∃ k : Fin 8, bt FK (i.val : Int) = (k.val : Int) + 1 ∧ 2 ^ k.val ≤ i.val := by decide +kernel

theorem JR : ByteArray.size FK = 256 := by decide +kernel

theorem YQ {x : Int} (h : 0 ≤ x) (h2 : x ≤ 255) : IntKind.u8.wrap x = x := by
  simp only [IntKind.wrap, IntKind.bits, IntKind.signed]
  simp
  omega

theorem DE {x : Int} (h : 0 ≤ x) (h2 : x ≤ 9223372036854775807) : IntKind.u64.wrap x = x := by
  simp only [IntKind.wrap, IntKind.bits, IntKind.signed]
  simp
  omega

theorem WC {x n : Int} (h1 : 1 ≤ x) (h2 : x ≤ 255) (hn : 0 ≤ n ∧ n ≤ 100) : ∃ k : Nat, lC x n = some (n + k + 1) ∧ k ≤ 7 ∧ (2 : Int) ^ k ≤ x := by
  obtain ⟨k, e, hk⟩ := TU ⟨x.toNat, by omega⟩ (by simp; omega)
  refine ⟨k.val, ?_, by omega, ?_⟩
  · show (aZ (0 ≤ (IntKind.u8.wrap x) ∧ (IntKind.u8.wrap x) < ((ByteArray.size FK : Nat) : Int)) <| some (IntKind.i64.wrap (n + (IntKind.i64.wrap (bt FK (IntKind.u8.wrap x)))))) = _
    rw [YQ (by omega) h2, aL (by rw [JR]; omega)]
    simp only at e
    rw [Int.toNat_of_nonneg (by omega)] at e
    rw [e, gS (n := (k.val : Int) + 1) (by omega) (by omega), gS (by omega) (by omega)]
    congr 1
    omega
  · simp only at hk
    have : ((2 ^ k.val : Nat) : Int) ≤ ((x.toNat : Nat) : Int) := by exact_mod_cast hk
    rw [Int.toNat_of_nonneg (by omega)] at this
    simpa using this

theorem GF {x m : Int} (hm : 0 < m) : Int.fdiv x m = x / m := Int.fdiv_eq_ediv_of_nonneg _ (by omega)

theorem UT {x n : Int} (h1 : 1 ≤ x) (h2 : x ≤ 65535) (hn : 0 ≤ n ∧ n ≤ 90) : ∃ k : Nat, kE x n = some (n + k + 1) ∧ k ≤ 15 ∧ (2 : Int) ^ k ≤ x := by
  unfold kE
  by_cases h : 256 ≤ x
  · have hd : Int.fdiv x (2 ^ (min (Int.toNat (8 : Int)) 64)) = x / 256 := by rw [show (2 ^ (min (Int.toNat (8 : Int)) 64) : Int) = 256 from by decide]; exact GF (by omega)
    obtain ⟨k, e, h3, h4⟩ := WC (x := x / 256) (n := n + 8) (by omega) (by omega) (by omega)
    refine ⟨k + 8, ?_, by omega, ?_⟩
    · simp only [h, decide_true, cond_true]
      rw [aL (by decide), hd, gS (n := n + 8) (by omega) (by omega), e]
      congr 1; omega
    · rw [Int.pow_add]; have : (2 : Int) ^ 8 = 256 := by decide
      rw [this]; omega
  · obtain ⟨k, e, h3, h4⟩ := WC (x := x) (n := n) h1 (by omega) (by omega)
    exact ⟨k, by simp only [h, decide_false, cond_false, e], by omega, h4⟩

theorem TW {x n : Int} (h1 : 1 ≤ x) (h2 : x ≤ 4294967295) (hn : 0 ≤ n ∧ n ≤ 70) : ∃ k : Nat, kB x n = some (n + k + 1) ∧ k ≤ 31 ∧ (2 : Int) ^ k ≤ x := by
  unfold kB
  by_cases h : 65536 ≤ x
  · have hd : Int.fdiv x (2 ^ (min (Int.toNat (16 : Int)) 64)) = x / 65536 := by rw [show (2 ^ (min (Int.toNat (16 : Int)) 64) : Int) = 65536 from by decide]; exact GF (by omega)
    obtain ⟨k, e, h3, h4⟩ := UT (x := x / 65536) (n := n + 16) (by omega) (by omega) (by omega)
    refine ⟨k + 16, ?_, by omega, ?_⟩
    · simp only [h, decide_true, cond_true]
      rw [aL (by decide), hd, gS (n := n + 16) (by omega) (by omega), e]
      congr 1; omega
    · rw [Int.pow_add]; have : (2 : Int) ^ 16 = 65536 := by decide
      rw [this]; omega
  · obtain ⟨k, e, h3, h4⟩ := UT (x := x) (n := n) h1 (by omega) (by omega)
    exact ⟨k, by simp only [h, decide_false, cond_false, e], by omega, h4⟩

theorem UG {x : Int} (h1 : 1 ≤ x) (h2 : x ≤ 9223372036854775807) : ∃ k : Nat, jO x = some ((k : Int) + 1) ∧ k ≤ 63 ∧ (2 : Int) ^ k ≤ x := by
  unfold jO nC
  by_cases h : 4294967296 ≤ x
  · have hd : Int.fdiv x (2 ^ (min (Int.toNat (32 : Int)) 64)) = x / 4294967296 := by rw [show (2 ^ (min (Int.toNat (32 : Int)) 64) : Int) = 4294967296 from by decide]; exact GF (by omega)
    obtain ⟨k, e, h3, h4⟩ := TW (x := x / 4294967296) (n := 32) (by omega) (by omega) (by omega)
    refine ⟨k + 32, ?_, by omega, ?_⟩
    · simp only [h, decide_true, cond_true]
      rw [aL (by decide), hd, e]
      simp only [Option.bind_some]
      congr 1; omega
    · rw [Int.pow_add]; have : (2 : Int) ^ 32 = 4294967296 := by decide
      rw [this]; omega
  · obtain ⟨k, e, h3, h4⟩ := TW (x := x) (n := 0) h1 (by omega) (by omega)
    refine ⟨k, ?_, by omega, h4⟩
    simp only [h, decide_false, cond_false, e, Option.bind_some]
    congr 1; omega

theorem VK : bt FK 0 = 0 := by decide +kernel

theorem WN : jO 0 = some 0 := by
  have h3 : lC 0 0 = some 0 := by
    show (aZ (0 ≤ (IntKind.u8.wrap 0) ∧ (IntKind.u8.wrap 0) < ((ByteArray.size FK : Nat) : Int)) <| some (IntKind.i64.wrap (0 + (IntKind.i64.wrap (bt FK (IntKind.u8.wrap 0)))))) = _
    rw [YQ (by omega) (by omega), aL (by rw [JR]; omega), VK, gS (n := 0) (by omega) (by omega), gS (by omega) (by omega)]
    rfl
  have h2 : kE 0 0 = some 0 := h3
  have h1 : kB 0 0 = some 0 := h2
  unfold jO nC
  have : decide ((4294967296 : Int) ≤ 0) = false := by decide
  rw [this, cond_false, h1]
  rfl

theorem WT {n : Nat} (h1 : 1 ≤ n) (h2 : n < 2305843009213693951) : ∃ m : Int, kI (n : Int) = some m ∧ 1 ≤ m ∧ m ≤ 2 * n := by
  unfold kI
  rw [DE (by omega) (by omega)]
  obtain ⟨k, e, h3, h4⟩ := UG (x := (n : Int)) (by omega) (by omega)
  have hk : (2 : Int) ^ (k + 1) = 2 * 2 ^ k := by rw [Int.pow_succ]; omega
  have hp : (1 : Int) ≤ 2 ^ k := by
    have : (0 : Int) < 2 ^ k := Int.pow_pos (by decide)
    omega
  rw [e]
  simp only [Option.bind_some]
  rw [aL (by omega), show min (Int.toNat ((k : Int) + 1)) 64 = k + 1 by omega, Int.one_mul, hk, DE (by omega) (by omega)]
  exact ⟨_, rfl, by omega, by omega⟩

theorem aAV (x : Int) {m : Int} (h0 : 0 ≤ m) (hm : m ≤ 9223372036854775807) : 0 ≤ bO .and .u64 x m ∧ bO .and .u64 x m ≤ m := by
  have h1 : (BitVec.ofInt IntKind.u64.bits x &&& BitVec.ofInt IntKind.u64.bits m).toNat ≤ m.toNat := by
    rw [BitVec.toNat_and]
    refine Nat.le_trans Nat.and_le_right ?_
    rw [BitVec.toNat_ofInt]
    have : IntKind.u64.bits = 64 := rfl
    rw [this]
    omega
  have h2 : bO .and .u64 x m = ((BitVec.ofInt IntKind.u64.bits x &&& BitVec.ofInt IntKind.u64.bits m).toNat : Int) := DE (by omega) (by omega)
  rw [h2]
  omega

theorem SL (r : Int) : ∃ x, kQ r = some x := by
  unfold kQ
  rw [aL (by decide), aL (by decide), aL (by decide)]
  exact ⟨_, rfl⟩

theorem VD {lo i o : Nat} {d : List Int} (l r m : Int) (hi : i < d.length) (ho : lo + o < d.length) (hl : d.length < 2305843009213693951) :
    eR d (lo : Nat) l r m (i : Nat) (o : Nat) = some (.inl (swp d i (lo + o), r, ((i + 1 : Nat) : Int))) := by
  unfold eR
  rw [wrN (x := (lo : Int) + (o : Int)) (n := lo + o) (by omega) (by omega), wrN (n := i + 1) (by omega) (by omega)]
  simp only [Int.toNat_natCast]
  rw [aL (asN (by omega)), aL (asN (by omega)), aL (asN (by omega)), aL (asN (by omega))]
  rfl

theorem aAu {lo n : Nat} {m : Int} (hm : 1 ≤ m ∧ m ≤ 2 * n) (h8 : 8 ≤ n) : ∀ (q i : Nat) (r : Int) (d : List Int), lo + n / 4 * 2 + 2 - i = q → lo ≤ i → i ≤ lo + n / 4 * 2 + 2 → lo + n ≤ d.length → d.length < 2305843009213693951 →
    ∃ d', lp (fun s : List Int × Int × Int => cW (lo : Nat) (n : Nat) m s.1 s.2.1 s.2.2) (d, r, (i : Int)) = some d' ∧ Rel lo (lo + n) d d' := by
  have t4 : IntKind.i64.wrap (Int.tdiv (n : Int) 4) = ((n / 4 : Nat) : Int) ∨ 2305843009213693951 ≤ n := by
    by_cases h : n < 2305843009213693951
    · left
      have : Int.tdiv (n : Int) 4 = ((n / 4 : Nat) : Int) := by rw [Int.tdiv_eq_ediv_of_nonneg (by omega)]; omega
      rw [this]; exact wrN rfl (by omega)
    · right; omega
  intro q
  induction q with
  | zero =>
    intro i r d h1 h2 h3 h4 h5
    have t4 := t4.resolve_right (by omega)
    refine ⟨d, cR ?_, Rel.refl ..⟩
    show cW _ _ _ _ _ _ = _
    unfold cW
    rw [aL (by decide), t4, wrN (x := ((n / 4 : Nat) : Int) * 2) (n := n / 4 * 2) (by omega) (by omega), wrN (x := (lo : Int) + ((n / 4 * 2 : Nat) : Int)) (n := lo + n / 4 * 2) (by omega) (by omega), wrN (x := ((lo + n / 4 * 2 : Nat) : Int) + 1) (n := lo + n / 4 * 2 + 1) (by omega) (by omega)]
    have : decide (((i : Nat) : Int) ≤ ((lo + n / 4 * 2 + 1 : Nat) : Int)) = false := by simp; omega
    rw [this, cond_false]
  | succ q ih =>
    intro i r d h1 h2 h3 h4 h5
    have t4 := t4.resolve_right (by omega)
    obtain ⟨x, hx⟩ := SL r
    obtain ⟨a1, a2⟩ := aAV x.1 (m := m - 1) (by omega) (by omega)
    have hd : decide (((i : Nat) : Int) ≤ ((lo + n / 4 * 2 + 1 : Nat) : Int)) = true := by simp; omega
    have step : ∃ o, o < n ∧ cW (lo : Nat) (n : Nat) m d r (i : Nat) = some (.inl (swp d i (lo + o), x.2, ((i + 1 : Nat) : Int))) := by
      unfold cW
      rw [aL (by decide), t4, wrN (x := ((n / 4 : Nat) : Int) * 2) (n := n / 4 * 2) (by omega) (by omega), wrN (x := (lo : Int) + ((n / 4 * 2 : Nat) : Int)) (n := lo + n / 4 * 2) (by omega) (by omega), wrN (x := ((lo + n / 4 * 2 : Nat) : Int) + 1) (n := lo + n / 4 * 2 + 1) (by omega) (by omega), hd, cond_true, hx]
      simp only [Option.bind_some]
      rw [DE (x := m - 1) (by omega) (by omega)]
      have e1 : IntKind.i64.wrap (bO .and .u64 x.1 (m - 1)) = (((bO .and .u64 x.1 (m - 1)).toNat : Nat) : Int) := wrN (by omega) (by omega)
      rw [e1]
      by_cases h : (n : Int) ≤ (((bO .and .u64 x.1 (m - 1)).toNat : Nat) : Int)
      · refine ⟨(bO .and .u64 x.1 (m - 1)).toNat - n, by omega, ?_⟩
        simp only [h, decide_true, cond_true]
        rw [wrN (x := (((bO .and .u64 x.1 (m - 1)).toNat : Nat) : Int) - (n : Int)) (n := (bO .and .u64 x.1 (m - 1)).toNat - n) (by omega) (by omega)]
        exact VD _ _ _ (by omega) (by omega) h5
      · refine ⟨(bO .and .u64 x.1 (m - 1)).toNat, by omega, ?_⟩
        simp only [h, decide_false, cond_false]
        exact VD _ _ _ (by omega) (by omega) h5
    obtain ⟨o, ho, hs⟩ := step
    obtain ⟨d', e, rl⟩ := ih (i + 1) x.2 (swp d i (lo + o)) (by omega) (by omega) (by omega) (by rw [gF]; exact h4) (by rw [gF]; exact h5)
    exact ⟨d', (eZ (show (fun s : List Int × Int × Int => cW (lo : Nat) (n : Nat) m s.1 s.2.1 s.2.2) (d, r, (i : Int)) = _ from hs)).trans e, (Rel.swp (i := i) (j := lo + o) (by omega) (by omega) (by omega) (by omega)).trans rl⟩

theorem TZ {lo hi : Nat} {d : List Int} (h8 : 8 ≤ hi - lo) (h1 : hi ≤ d.length) (h2 : d.length < 2305843009213693951) : ∃ d', gC d (lo : Int) (hi : Int) = some d' ∧ Rel lo hi d d' := by
  unfold gC
  have e1 : IntKind.i64.wrap ((hi : Int) - (lo : Int)) = ((hi - lo : Nat) : Int) := wrN (by omega) (by omega)
  have d1 : decide ((8 : Int) ≤ ((hi - lo : Nat) : Int)) = true := by simp; omega
  obtain ⟨m, em, m1, m2⟩ := WT (n := hi - lo) (by omega) (by omega)
  have t4 : IntKind.i64.wrap (Int.tdiv ((hi - lo : Nat) : Int) 4) = (((hi - lo) / 4 : Nat) : Int) := by
    have : Int.tdiv ((hi - lo : Nat) : Int) 4 = (((hi - lo) / 4 : Nat) : Int) := by rw [Int.tdiv_eq_ediv_of_nonneg (by omega)]; omega
    rw [this]; exact wrN rfl (by omega)
  rw [e1, d1, cond_true, em]
  simp only [Option.bind_some]
  rw [aL (by decide), t4, wrN (x := (((hi - lo) / 4 : Nat) : Int) * 2) (n := (hi - lo) / 4 * 2) (by omega) (by omega), wrN (x := (lo : Int) + (((hi - lo) / 4 * 2 : Nat) : Int)) (n := lo + (hi - lo) / 4 * 2) (by omega) (by omega), wrN (x := ((lo + (hi - lo) / 4 * 2 : Nat) : Int) - 1) (n := lo + (hi - lo) / 4 * 2 - 1) (by omega) (by omega)]
  unfold iT
  obtain ⟨d', e, r⟩ := aAu (lo := lo) (n := hi - lo) (m := m) ⟨m1, m2⟩ h8 (lo + (hi - lo) / 4 * 2 + 2 - (lo + (hi - lo) / 4 * 2 - 1)) (lo + (hi - lo) / 4 * 2 - 1) (IntKind.u64.wrap ((hi - lo : Nat) : Int)) d rfl (by omega) (by omega) (by omega) h2
  rw [e]
  have : lo + (hi - lo) = hi := by omega
  rw [this] at r
  exact ⟨d', rfl, r⟩

theorem XU {a b : Nat} {d : List Int} (s : Int) (ha : a < d.length) (hb : b < d.length) : ∃ (p q : Nat) (s' : Int), fP d (a : Int) (b : Int) s = some (((p : Int), (q : Int)), s') ∧ ((p = a ∧ q = b) ∨ (p = b ∧ q = a)) := by
  unfold fP
  rw [aL (asN hb), aL (asN ha), qM]
  simp only [Option.bind_some]
  cases decide (d.getD (Int.toNat (b : Int)) default < d.getD (Int.toNat (a : Int)) default)
  · exact ⟨a, b, _, rfl, .inl ⟨rfl, rfl⟩⟩
  · exact ⟨b, a, _, rfl, .inr ⟨rfl, rfl⟩⟩

theorem med {a b c : Nat} {d : List Int} (s : Int) (ha : a < d.length) (hb : b < d.length) (hc : c < d.length) : ∃ (p : Nat) (s' : Int), gZ d (a : Int) (b : Int) (c : Int) s = some ((p : Int), s') ∧ (p = a ∨ p = b ∨ p = c) := by
  unfold gZ
  obtain ⟨p1, q1, s1, e1, h1⟩ := XU s ha hb
  obtain ⟨p2, q2, s2, e2, h2⟩ := XU (a := q1) (b := c) (d := d) s1 (by omega) hc
  obtain ⟨p3, q3, s3, e3, h3⟩ := XU (a := p1) (b := p2) (d := d) s2 (by omega) (by omega)
  rw [e1]; simp only [Option.bind_some]
  rw [e2]; simp only [Option.bind_some]
  rw [e3]
  exact ⟨q3, s3, rfl, by omega⟩

theorem XL {a : Nat} {d : List Int} (s : Int) (h1 : 1 ≤ a) (ha : a + 1 < d.length) (hl : d.length < 2305843009213693951) : ∃ (p : Nat) (s' : Int), dV d (a : Int) s = some ((p : Int), s') ∧ a - 1 ≤ p ∧ p ≤ a + 1 := by
  unfold dV
  rw [wrN (x := (a : Int) - 1) (n := a - 1) (by omega) (by omega), wrN (x := (a : Int) + 1) (n := a + 1) (by omega) (by omega)]
  obtain ⟨p, s', e, h⟩ := med (a := a - 1) (b := a) (c := a + 1) (d := d) s (by omega) (by omega) (by omega)
  rw [e]
  exact ⟨p, s', rfl, by omega, by omega⟩

theorem YM (d : List Int) (s : Int) (j : Int) : ∃ h, fA d s j = some (j, h) := by
  unfold fA
  cases decide (s = 0) <;> cases decide (s = 12) <;> exact ⟨_, rfl⟩

theorem SI {lo hi : Nat} {d : List Int} (h8 : 12 < hi - lo) (h1 : hi ≤ d.length) (h2 : d.length < 2305843009213693951) : ∃ (p : Nat) (h : Int), gU d (lo : Int) (hi : Int) = some ((p : Int), h) ∧ lo ≤ p ∧ p < hi := by
  unfold gU
  have e1 : IntKind.i64.wrap ((hi : Int) - (lo : Int)) = ((hi - lo : Nat) : Int) := wrN (by omega) (by omega)
  have t4 : IntKind.i64.wrap (Int.tdiv ((hi - lo : Nat) : Int) 4) = (((hi - lo) / 4 : Nat) : Int) := by
    have : Int.tdiv ((hi - lo : Nat) : Int) 4 = (((hi - lo) / 4 : Nat) : Int) := by rw [Int.tdiv_eq_ediv_of_nonneg (by omega)]; omega
    rw [this]; exact wrN rfl (by omega)
  have d1 : decide ((8 : Int) ≤ ((hi - lo : Nat) : Int)) = true := by simp; omega
  have q1 : IntKind.i64.wrap ((lo : Int) + IntKind.i64.wrap ((((hi - lo) / 4 : Nat) : Int) * 1)) = ((lo + (hi - lo) / 4 : Nat) : Int) := by
    rw [wrN (x := (((hi - lo) / 4 : Nat) : Int) * 1) (n := (hi - lo) / 4) (by omega) (by omega)]; exact wrN (by omega) (by omega)
  have q2 : IntKind.i64.wrap ((lo : Int) + IntKind.i64.wrap ((((hi - lo) / 4 : Nat) : Int) * 2)) = ((lo + (hi - lo) / 4 * 2 : Nat) : Int) := by
    rw [wrN (x := (((hi - lo) / 4 : Nat) : Int) * 2) (n := (hi - lo) / 4 * 2) (by omega) (by omega)]; exact wrN (by omega) (by omega)
  have q3 : IntKind.i64.wrap ((lo : Int) + IntKind.i64.wrap ((((hi - lo) / 4 : Nat) : Int) * 3)) = ((lo + (hi - lo) / 4 * 3 : Nat) : Int) := by
    rw [wrN (x := (((hi - lo) / 4 : Nat) : Int) * 3) (n := (hi - lo) / 4 * 3) (by omega) (by omega)]; exact wrN (by omega) (by omega)
  rw [aL (by decide), aL (by decide), aL (by decide)]
  simp only [e1, t4, d1, q1, q2, q3, cond_true]
  by_cases h50 : (50 : Int) ≤ ((hi - lo : Nat) : Int)
  · simp only [h50, decide_true, cond_true]
    obtain ⟨p1, s1, f1, g1, g2⟩ := XL (a := lo + (hi - lo) / 4) (d := d) 0 (by omega) (by omega) h2
    obtain ⟨p2, s2, f2, g3, g4⟩ := XL (a := lo + (hi - lo) / 4 * 2) (d := d) s1 (by omega) (by omega) h2
    obtain ⟨p3, s3, f3, g5, g6⟩ := XL (a := lo + (hi - lo) / 4 * 3) (d := d) s2 (by omega) (by omega) h2
    obtain ⟨p4, s4, f4, g7⟩ := med (a := p1) (b := p2) (c := p3) (d := d) s3 (by omega) (by omega) (by omega)
    obtain ⟨h, f5⟩ := YM d s4 p4
    rw [f1]; simp only [Option.bind_some]
    rw [f2]; simp only [Option.bind_some]
    rw [f3]; simp only [Option.bind_some, fE]
    rw [f4]; simp only [Option.bind_some]
    exact ⟨p4, h, f5, by omega, by omega⟩
  · simp only [h50, decide_false, cond_false, fE]
    obtain ⟨p4, s4, f4, g7⟩ := med (a := lo + (hi - lo) / 4) (b := lo + (hi - lo) / 4 * 2) (c := lo + (hi - lo) / 4 * 3) (d := d) 0 (by omega) (by omega) (by omega)
    obtain ⟨h, f5⟩ := YM d s4 p4
    rw [f4]; simp only [Option.bind_some]
    exact ⟨p4, h, f5, by omega, by omega⟩

end Go.Abs
namespace Go.Abs
open Go
theorem IW {body : List Int × Int → Option ((List Int × Int) ⊕ (List Int × Int))} {d : List Int} {p : Nat → Prop} [DecidablePred p] {j : Nat}
    (hs : ∀ i, i ≤ j + 1 → body (d, (i : Int)) = if i ≤ j ∧ p i then some (.inl (d, ((i + 1 : Nat) : Int))) else some (.inr (d, (i : Int)))) :
    ∀ (n i : Nat), j + 1 - i = n → i ≤ j + 1 → ∃ i' : Nat, lp body (d, (i : Int)) = some (d, (i' : Int)) ∧ i ≤ i' ∧ i' ≤ j + 1 ∧ (∀ k, i ≤ k → k < i' → p k) ∧ (i' ≤ j → ¬ p i') := by
  intro n
  induction n with
  | zero =>
    intro i h1 h2
    have := hs i h2
    rw [if_neg (by omega)] at this
    exact ⟨i, cR this, Nat.le_refl _, h2, fun k a b => by omega, fun h => by omega⟩
  | succ n ih =>
    intro i h1 h2
    have h := hs i h2
    by_cases hp : p i
    · rw [if_pos ⟨by omega, hp⟩] at h
      obtain ⟨i', e, a1, a2, a3, a4⟩ := ih (i + 1) (by omega) (by omega)
      refine ⟨i', (eZ h).trans e, by omega, a2, fun k b1 b2 => ?_, a4⟩
      by_cases hk : k = i
      · rw [hk]; exact hp
      · exact a3 k (by omega) b2
    · rw [if_neg fun hh => hp hh.2] at h
      exact ⟨i, cR h, Nat.le_refl _, h2, fun k a b => by omega, fun _ => hp⟩

theorem CU {body : List Int × Int → Option ((List Int × Int) ⊕ (List Int × Int))} {d : List Int} {p : Nat → Prop} [DecidablePred p] {i m : Nat} (hi : 1 ≤ i)
    (hs : ∀ j, j ≤ m → body (d, (j : Int)) = if i ≤ j ∧ p j then some (.inl (d, ((j - 1 : Nat) : Int))) else some (.inr (d, (j : Int)))) :
    ∀ (j : Nat), j ≤ m → i ≤ j + 1 → ∃ j' : Nat, lp body (d, (j : Int)) = some (d, (j' : Int)) ∧ i ≤ j' + 1 ∧ j' ≤ j ∧ (∀ k, j' < k → k ≤ j → p k) ∧ (i ≤ j' → ¬ p j') := by
  intro j
  induction j with
  | zero =>
    intro h1 h2
    have := hs 0 h1
    rw [if_neg (by omega)] at this
    exact ⟨0, cR this, by omega, Nat.le_refl _, fun k a b => by omega, fun h => by omega⟩
  | succ j ih =>
    intro h1 h2
    have h := hs (j + 1) h1
    by_cases hp : i ≤ j + 1 ∧ p (j + 1)
    · rw [if_pos hp] at h
      obtain ⟨j', e, a1, a2, a3, a4⟩ := ih (by omega) (by omega)
      refine ⟨j', (eZ h).trans e, a1, by omega, fun k b1 b2 => ?_, a4⟩
      by_cases hk : k = j + 1
      · rw [hk]; exact hp.2
      · exact a3 k b1 (by omega)
    · rw [if_neg hp] at h
      exact ⟨j + 1, cR h, by omega, Nat.le_refl _, fun k a b => by omega, fun h1 h2 => hp ⟨h1, h2⟩⟩

theorem QS {α : Type} {i j u v : Nat} {d : List Int} {n : Bool} {x y : Option α} (hu : i ≤ j → u < d.length) (hv : i ≤ j → v < d.length) :
    (aZ ((decide ((i : Int) ≤ (j : Int))) = true → 0 ≤ (u : Int) ∧ (u : Int) < ((List.length d : Nat) : Int)) <|
    aZ ((decide ((i : Int) ≤ (j : Int))) = true → 0 ≤ (v : Int) ∧ (v : Int) < ((List.length d : Nat) : Int)) <|
    (dA (decide ((i : Int) ≤ (j : Int))) (dB (List.getD d (Int.toNat (u : Int)) default) (List.getD d (Int.toNat (v : Int)) default))).bind fun z =>
    cond ((decide ((i : Int) ≤ (j : Int))) && (Bool.xor n z)) x y) = if i ≤ j ∧ (Bool.xor n (decide (gN d u < gN d v))) = true then x else y := by
  by_cases h : i ≤ j
  · have hd : decide ((i : Int) ≤ (j : Int)) = true := by simp; omega
    rw [hd]
    rw [aL fun _ => asN (hu h), aL fun _ => asN (hv h)]
    simp only [dA, cond_true, qM, Option.bind_some, Bool.true_and, Int.toNat_natCast, h, true_and, gN]
    cases Bool.xor n (decide (d.getD u default < d.getD v default)) <;> simp
  · have hd : decide ((i : Int) ≤ (j : Int)) = false := by simp; omega
    rw [hd, aL (fun h => by cases h), aL (fun h => by cases h)]
    simp [dA, h]

theorem FX {α : Type} {i j u v : Nat} {d : List Int} {x y : Option α} (hu : i ≤ j → u < d.length) (hv : i ≤ j → v < d.length) :
    (aZ ((decide ((i : Int) ≤ (j : Int))) = true → 0 ≤ (u : Int) ∧ (u : Int) < ((List.length d : Nat) : Int)) <|
    aZ ((decide ((i : Int) ≤ (j : Int))) = true → 0 ≤ (v : Int) ∧ (v : Int) < ((List.length d : Nat) : Int)) <|
    (dA (decide ((i : Int) ≤ (j : Int))) (dB (List.getD d (Int.toNat (u : Int)) default) (List.getD d (Int.toNat (v : Int)) default))).bind fun z =>
    cond ((decide ((i : Int) ≤ (j : Int))) && z) x y) = if i ≤ j ∧ gN d u < gN d v then x else y := by
  have := QS (n := false) (x := x) (y := y) hu hv
  simp only [Bool.false_xor] at this
  exact this.trans (by simp)

theorem GH {α : Type} {i j u v : Nat} {d : List Int} {x y : Option α} (hu : i ≤ j → u < d.length) (hv : i ≤ j → v < d.length) :
    (aZ ((decide ((i : Int) ≤ (j : Int))) = true → 0 ≤ (u : Int) ∧ (u : Int) < ((List.length d : Nat) : Int)) <|
    aZ ((decide ((i : Int) ≤ (j : Int))) = true → 0 ≤ (v : Int) ∧ (v : Int) < ((List.length d : Nat) : Int)) <|
    (dA (decide ((i : Int) ≤ (j : Int))) (dB (List.getD d (Int.toNat (u : Int)) default) (List.getD d (Int.toNat (v : Int)) default))).bind fun z =>
    cond ((decide ((i : Int) ≤ (j : Int))) && (!z)) x y) = if i ≤ j ∧ ¬ gN d u < gN d v then x else y := by
  have := QS (n := true) (x := x) (y := y) hu hv
  simp only [Bool.true_xor] at this
  exact this.trans (by simp)

theorem ZE {a j : Nat} {d : List Int} (ha : a < d.length) (hj : j < d.length) (hl : d.length < 2305843009213693951) : ∀ i, i ≤ j + 1 → eD (a : Nat) (j : Nat) d (i : Nat) = if i ≤ j ∧ gN d i < gN d a then some (.inl (d, ((i + 1 : Nat) : Int))) else some (.inr (d, (i : Int))) := by
  intro i hi
  unfold eD
  rw [wrN (x := (i : Int) + 1) (n := i + 1) (by omega) (by omega)]
  exact FX (u := i) (v := a) (by omega) (by omega)

theorem WU {a j : Nat} {d : List Int} (ha : a < d.length) (hj : j < d.length) (hl : d.length < 2305843009213693951) : ∀ i, i ≤ j + 1 → eJ (a : Nat) (j : Nat) d (i : Nat) = if i ≤ j ∧ gN d i < gN d a then some (.inl (d, ((i + 1 : Nat) : Int))) else some (.inr (d, (i : Int))) := by
  intro i hi
  unfold eJ
  rw [wrN (x := (i : Int) + 1) (n := i + 1) (by omega) (by omega)]
  exact FX (u := i) (v := a) (by omega) (by omega)

theorem VF {a i m : Nat} {d : List Int} (hi : 1 ≤ i) (ha : a < d.length) (hm : m < d.length) (hl : d.length < 2305843009213693951) : ∀ j, j ≤ m → eM (a : Nat) (i : Nat) d (j : Nat) = if i ≤ j ∧ ¬ gN d j < gN d a then some (.inl (d, ((j - 1 : Nat) : Int))) else some (.inr (d, (j : Int))) := by
  intro j hj
  unfold eM
  refine (GH (i := i) (j := j) (d := d) (α := (List Int × Int) ⊕ (List Int × Int)) (u := j) (v := a) (x := some (.inl (d, IntKind.i64.wrap ((j : Int) - 1)))) (y := some (.inr (d, (j : Int)))) (by omega) (by omega)).trans ?_
  by_cases h : i ≤ j ∧ ¬ gN d j < gN d a
  · rw [if_pos h, if_pos h, wrN (x := (j : Int) - 1) (n := j - 1) (by omega) (by omega)]
  · rw [if_neg h, if_neg h]

theorem TC {a i m : Nat} {d : List Int} (hi : 1 ≤ i) (ha : a < d.length) (hm : m < d.length) (hl : d.length < 2305843009213693951) : ∀ j, j ≤ m → eN (a : Nat) (i : Nat) d (j : Nat) = if i ≤ j ∧ ¬ gN d j < gN d a then some (.inl (d, ((j - 1 : Nat) : Int))) else some (.inr (d, (j : Int))) := by
  intro j hj
  unfold eN
  refine (GH (i := i) (j := j) (d := d) (α := (List Int × Int) ⊕ (List Int × Int)) (u := j) (v := a) (x := some (.inl (d, IntKind.i64.wrap ((j : Int) - 1)))) (y := some (.inr (d, (j : Int)))) (by omega) (by omega)).trans ?_
  by_cases h : i ≤ j ∧ ¬ gN d j < gN d a
  · rw [if_pos h, if_pos h, wrN (x := (j : Int) - 1) (n := j - 1) (by omega) (by omega)]
  · rw [if_neg h, if_neg h]

theorem YF {a j : Nat} {d : List Int} (ha : a < d.length) (hj : j < d.length) (hl : d.length < 2305843009213693951) : ∀ i, i ≤ j + 1 → dQ (a : Nat) (j : Nat) d (i : Nat) = if i ≤ j ∧ ¬ gN d a < gN d i then some (.inl (d, ((i + 1 : Nat) : Int))) else some (.inr (d, (i : Int))) := by
  intro i hi
  unfold dQ
  rw [wrN (x := (i : Int) + 1) (n := i + 1) (by omega) (by omega)]
  exact GH (u := a) (v := i) (by omega) (by omega)

theorem SY {a i m : Nat} {d : List Int} (hi : 1 ≤ i) (ha : a < d.length) (hm : m < d.length) (hl : d.length < 2305843009213693951) : ∀ j, j ≤ m → dO (a : Nat) (i : Nat) d (j : Nat) = if i ≤ j ∧ gN d a < gN d j then some (.inl (d, ((j - 1 : Nat) : Int))) else some (.inr (d, (j : Int))) := by
  intro j hj
  unfold dO
  refine (FX (i := i) (j := j) (d := d) (α := (List Int × Int) ⊕ (List Int × Int)) (u := a) (v := j) (x := some (.inl (d, IntKind.i64.wrap ((j : Int) - 1)))) (y := some (.inr (d, (j : Int)))) (by omega) (by omega)).trans ?_
  by_cases h : i ≤ j ∧ gN d a < gN d j
  · rw [if_pos h, if_pos h, wrN (x := (j : Int) - 1) (n := j - 1) (by omega) (by omega)]
  · rw [if_neg h, if_neg h]

structure xU (a b i j : Nat) (d : List Int) : Prop where
  hi : a < i
  hij : i ≤ j + 1
  hj : j < b
  lo : ∀ k, a < k → k < i → gN d k < gN d a
  up : ∀ k, j < k → k < b → gN d a ≤ gN d k

theorem xU.swap {a b i j : Nat} {d : List Int} (h : xU a b i j d) (hb : b ≤ d.length) (hij : i < j) (h1 : gN d a ≤ gN d i) (h2 : gN d j < gN d a) : xU a b (i + 1) (j - 1) (swp d i j) := by
  have := h.hi; have := h.hj
  have g := rL (d := d) (i := i) (j := j) (by omega) (by omega)
  have ga : gN (swp d i j) a = gN d a := by rw [g, if_neg (by omega), if_neg (by omega)]
  refine ⟨by omega, by omega, by omega, fun k k1 k2 => ?_, fun k k1 k2 => ?_⟩
  · rw [ga, g, if_neg (by omega)]
    by_cases hk : k = i
    · rw [if_pos hk]; exact h2
    · rw [if_neg hk]; exact h.lo k k1 (by omega)
  · rw [ga, g]
    by_cases hk : k = j
    · rw [if_pos hk]; exact h1
    · rw [if_neg hk, if_neg (by omega)]; exact h.up k (by omega) k2

theorem HU {a b i j : Nat} {d : List Int} (h : xU a b i j d) (hb : b ≤ d.length) (hl : d.length < 2305843009213693951) : ∃ i' j' : Nat, xU a b i' j' d ∧ i ≤ i' ∧ j' ≤ j ∧ (j' < i' → j' + 1 = i') ∧ (i' ≤ j' → i' < j' ∧ gN d a ≤ gN d i' ∧ gN d j' < gN d a) ∧
    dH (a : Nat) d (i : Nat) (j : Nat) = eP d (a : Nat) (i' : Nat) (j' : Nat) ∧ fI d (a : Nat) (i : Nat) (j : Nat) = eO d (a : Nat) (i' : Nat) (j' : Nat) := by
  have h1 := h.hi; have h2 := h.hij; have h3 := h.hj
  obtain ⟨i', e1, a1, a2, a3, a4⟩ := IW (body := fun s => eJ (a : Nat) (j : Nat) s.1 s.2) (d := d) (p := fun k => gN d k < gN d a) (j := j) (WU (a := a) (j := j) (d := d) (by omega) (by omega) hl) (j + 1 - i) i rfl h2
  obtain ⟨i2, e1', b1, b2, b3, b4⟩ := IW (body := fun s => eD (a : Nat) (j : Nat) s.1 s.2) (d := d) (p := fun k => gN d k < gN d a) (j := j) (ZE (a := a) (j := j) (d := d) (by omega) (by omega) hl) (j + 1 - i) i rfl h2
  have hii : i2 = i' := by
    rcases Nat.lt_trichotomy i2 i' with hh | hh | hh
    · exact absurd (a3 i2 b1 hh) (b4 (by omega))
    · exact hh
    · exact absurd (b3 i' a1 hh) (a4 (by omega))
  subst hii
  obtain ⟨j', f1, c1, c2, c3, c4⟩ := CU (body := fun s => eN (a : Nat) (i2 : Nat) s.1 s.2) (d := d) (p := fun k => ¬ gN d k < gN d a) (i := i2) (m := j) (by omega) (TC (a := a) (i := i2) (m := j) (d := d) (by omega) (by omega) (by omega) hl) j (Nat.le_refl _) a2
  obtain ⟨j2, f1', g1, g2, g3, g4⟩ := CU (body := fun s => eM (a : Nat) (i2 : Nat) s.1 s.2) (d := d) (p := fun k => ¬ gN d k < gN d a) (i := i2) (m := j) (by omega) (VF (a := a) (i := i2) (m := j) (d := d) (by omega) (by omega) (by omega) hl) j (Nat.le_refl _) a2
  have hjj : j2 = j' := by
    rcases Nat.lt_trichotomy j2 j' with hh | hh | hh
    · exact absurd (g3 j' hh c2) (c4 (by omega))
    · exact hh
    · exact absurd (c3 j2 hh g2) (g4 (by omega))
  subst hjj
  have hend : i2 ≤ j2 → i2 < j2 ∧ gN d a ≤ gN d i2 ∧ gN d j2 < gN d a := fun hh => by
    have k1 : ¬ gN d i2 < gN d a := a4 (by omega)
    have k2 : gN d j2 < gN d a := Classical.byContradiction fun hn => c4 hh hn
    refine ⟨?_, by omega, k2⟩
    rcases Nat.lt_or_ge i2 j2 with h | h
    · exact h
    · have : i2 = j2 := by omega
      rw [this] at k1; exact absurd k2 k1
  refine ⟨i2, j2, ⟨by omega, by omega, by omega, fun k k1 k2 => ?_, fun k k1 k2 => ?_⟩, a1, c2, fun hh => by omega, hend, ?_, ?_⟩
  · by_cases hk : k < i
    · exact h.lo k k1 hk
    · exact a3 k (by omega) k2
  · by_cases hk : j < k
    · exact h.up k hk k2
    · have := c3 k k1 (by omega); omega
  · unfold dH jU
    rw [show lp (fun s : List Int × Int => eJ (a : Nat) (j : Nat) s.1 s.2) (d, (i : Int)) = some (d, (i2 : Int)) from e1]
    simp only [Option.bind_some]
    unfold iD jP
    rw [show lp (fun s : List Int × Int => eN (a : Nat) (i2 : Nat) s.1 s.2) (d, (j : Int)) = some (d, (j2 : Int)) from f1]
    rfl
  · unfold fI
    rw [show lp (fun s : List Int × Int => eD (a : Nat) (j : Nat) s.1 s.2) (d, (i : Int)) = some (d, (i2 : Int)) from e1']
    simp only [Option.bind_some]
    unfold iC jR
    rw [show lp (fun s : List Int × Int => eM (a : Nat) (i2 : Nat) s.1 s.2) (d, (j : Int)) = some (d, (j2 : Int)) from f1']
    rfl

theorem xU.rel {a b i j : Nat} {d : List Int} (h : xU a b i j d) (hb : b ≤ d.length) (hij : i ≤ j) : Rel (a + 1) b d (swp d i j) := by
  have := h.hi; have := h.hj
  exact Rel.swp (i := i) (j := j) (by omega) (by omega) (by omega) (by omega)

theorem ZD {a b : Nat} : ∀ (n i j : Nat) (d : List Int), j + 1 - i = n → b ≤ d.length → d.length < 2305843009213693951 → xU a b i j d →
    ∃ (d' : List Int) (j' : Nat), lp (fun s : List Int × Int × Int => dH (a : Nat) s.1 s.2.1 s.2.2) (d, (i : Int), (j : Int)) = some (d', (j' : Int)) ∧ Rel (a + 1) b d d' ∧ xU a b (j' + 1) j' d' := by
  intro n
  induction n using Nat.strongRecOn with
  | ind n ih =>
    intro i j d h1 h2 h3 h
    obtain ⟨i', j', p1, p2, p3, p4, p5, p6, _⟩ := HU h h2 h3
    have q1 := p1.hi; have q2 := p1.hj; have q3 := p1.hij
    by_cases hlt : j' < i'
    · have hs : dH (a : Nat) d (i : Nat) (j : Nat) = some (.inr (d, (j' : Int))) := by
        rw [p6]
        unfold eP
        have : decide ((j' : Int) < (i' : Int)) = true := by simp; omega
        rw [this, cond_true]
      have := p4 hlt
      exact ⟨d, j', cR hs, Rel.refl .., by rw [this]; exact p1⟩
    · obtain ⟨k1, k2, k3⟩ := p5 (by omega)
      have hs : dH (a : Nat) d (i : Nat) (j : Nat) = some (.inl (swp d i' j', ((i' + 1 : Nat) : Int), ((j' - 1 : Nat) : Int))) := by
        rw [p6]
        unfold eP
        have : decide ((j' : Int) < (i' : Int)) = false := by simp; omega
        rw [this, cond_false]
        simp only [Int.toNat_natCast]
        rw [aL (asN (by omega)), aL (asN (by omega)), aL (asN (by omega)), aL (asN (by omega)), wrN (x := (i' : Int) + 1) (n := i' + 1) (by omega) (by omega), wrN (x := (j' : Int) - 1) (n := j' - 1) (by omega) (by omega)]
        rfl
      obtain ⟨d', j2, e, r, p⟩ := ih (j' - 1 + 1 - (i' + 1)) (by omega) (i' + 1) (j' - 1) (swp d i' j') rfl (by rw [gF]; exact h2) (by rw [gF]; exact h3) (p1.swap h2 k1 k2 k3)
      exact ⟨d', j2, (eZ hs).trans e, (p1.rel h2 (by omega)).trans r, p⟩

theorem MK {a b j : Nat} {d : List Int} (h : xU a b (j + 1) j d) (hb : b ≤ d.length) : Rel a b d (swp d j a) ∧ (∀ k, a ≤ k → k < j → gN (swp d j a) k ≤ gN (swp d j a) j) ∧ (∀ k, j < k → k < b → gN (swp d j a) j ≤ gN (swp d j a) k) := by
  have h1 := h.hi; have h3 := h.hj
  have g := rL (d := d) (i := j) (j := a) (by omega) (by omega)
  have gj : gN (swp d j a) j = gN d a := by
    rw [g]
    by_cases hh : j = a
    · rw [if_pos hh, hh]
    · rw [if_neg hh, if_pos rfl]
  refine ⟨Rel.swp (i := j) (j := a) (by omega) (by omega) (by omega) (by omega), fun k k1 k2 => ?_, fun k k1 k2 => ?_⟩
  · rw [gj, g]
    by_cases hk : k = a
    · rw [if_pos hk]
      have := h.lo j (by omega) (by omega); omega
    · rw [if_neg hk, if_neg (by omega)]
      have := h.lo k (by omega) (by omega); omega
  · rw [gj, g, if_neg (by omega), if_neg (by omega)]
    exact h.up k k1 k2

theorem NZ {lo hi p : Nat} {d : List Int} (h0 : lo < hi) (hb : hi ≤ d.length) (hl : d.length < 2305843009213693951) (hp : lo ≤ p ∧ p < hi) :
    ∃ (m : Nat) (fl : Bool) (d' : List Int), fV d (lo : Int) (hi : Int) (p : Int) = some (((m : Int), fl), d') ∧ lo ≤ m ∧ m < hi ∧ Rel lo hi d d' ∧ (∀ k, lo ≤ k → k < m → gN d' k ≤ gN d' m) ∧ (∀ k, m < k → k < hi → gN d' m ≤ gN d' k) := by
  unfold fV
  rw [aL (asN (by omega)), aL (asN (by omega)), aL (asN (by omega)), aL (asN (by omega)), wrN (x := (lo : Int) + 1) (n := lo + 1) (by omega) (by omega), wrN (x := (hi : Int) - 1) (n := hi - 1) (by omega) (by omega)]
  simp only [Int.toNat_natCast]
  have r0 : Rel lo hi d (swp d lo p) := Rel.swp (i := lo) (j := p) (by omega) (by omega) (by omega) (by omega)
  have l0 : (swp d lo p).length = d.length := gF ..
  have inv : xU lo hi (lo + 1) (hi - 1) (swp d lo p) := ⟨by omega, by omega, by omega, fun k k1 k2 => by omega, fun k k1 k2 => by omega⟩
  obtain ⟨i', j', p1, p2, p3, p4, p5, _, p6⟩ := HU inv (by rw [l0]; exact hb) (by rw [l0]; exact hl)
  have e0 : fI (List.set (List.set d lo (List.getD d p default)) p (List.getD d lo default)) (lo : Int) ((lo + 1 : Nat) : Int) ((hi - 1 : Nat) : Int) = eO (swp d lo p) (lo : Nat) (i' : Nat) (j' : Nat) := p6
  rw [e0]
  have q1 := p1.hi; have q2 := p1.hj; have q3 := p1.hij
  generalize hg : swp d lo p = d1 at *
  unfold eO
  by_cases hlt : j' < i'
  · have : decide ((j' : Int) < (i' : Int)) = true := by simp; omega
    rw [this, cond_true]
    simp only [Int.toNat_natCast]
    rw [aL (asN (by omega)), aL (asN (by omega)), aL (asN (by omega)), aL (asN (by omega))]
    have hp1 : xU lo hi (j' + 1) j' d1 := by rw [p4 hlt]; exact p1
    obtain ⟨r, a1, a2⟩ := MK hp1 (by omega)
    exact ⟨j', true, swp d1 j' lo, rfl, by omega, by omega, r0.trans r, a1, a2⟩
  · obtain ⟨k1, k2, k3⟩ := p5 (by omega)
    have : decide ((j' : Int) < (i' : Int)) = false := by simp; omega
    rw [this, cond_false]
    simp only [Int.toNat_natCast]
    rw [aL (asN (by omega)), aL (asN (by omega)), aL (asN (by omega)), aL (asN (by omega)), wrN (x := (i' : Int) + 1) (n := i' + 1) (by omega) (by omega), wrN (x := (j' : Int) - 1) (n := j' - 1) (by omega) (by omega)]
    obtain ⟨d2, j2, e, r, pp⟩ := ZD (a := lo) (b := hi) (j' - 1 + 1 - (i' + 1)) (i' + 1) (j' - 1) (swp d1 i' j') rfl (by rw [gF]; omega) (by rw [gF]; omega) (p1.swap (by omega) k1 k2 k3)
    have w1 := pp.hi; have w2 := pp.hj
    have l2 : d2.length = d1.length := by rw [r.len, gF]
    unfold jS
    rw [show lp (fun s : List Int × Int × Int => dH (lo : Int) s.1 s.2.1 s.2.2) ((List.set (List.set d1 i' (List.getD d1 j' default)) j' (List.getD d1 i' default)), ((i' + 1 : Nat) : Int), ((j' - 1 : Nat) : Int)) = some (d2, (j2 : Int)) from e]
    simp only [Option.bind_some, iA, Int.toNat_natCast]
    rw [aL (asN (by omega)), aL (asN (by omega)), aL (asN (by omega)), aL (asN (by omega))]
    obtain ⟨rr, a1, a2⟩ := MK pp (by omega)
    exact ⟨j2, false, swp d2 j2 lo, rfl, by omega, by omega, ((r0.trans ((p1.rel (by omega) (by omega)).mono (by omega) (Nat.le_refl _))).trans (r.mono (by omega) (Nat.le_refl _))).trans rr, a1, a2⟩

end Go.Abs
namespace Go.Abs
open Go
structure DI (a b i j : Nat) (d : List Int) : Prop where
  hi : a < i
  hij : i ≤ j + 1
  hj : j < b
  lo : ∀ k, a < k → k < i → gN d k ≤ gN d a
  up : ∀ k, j < k → k < b → gN d a < gN d k

theorem DI.swap {a b i j : Nat} {d : List Int} (h : DI a b i j d) (hb : b ≤ d.length) (hij : i < j) (h1 : gN d a < gN d i) (h2 : gN d j ≤ gN d a) : DI a b (i + 1) (j - 1) (swp d i j) := by
  have := h.hi; have := h.hj
  have g := rL (d := d) (i := i) (j := j) (by omega) (by omega)
  have ga : gN (swp d i j) a = gN d a := by rw [g, if_neg (by omega), if_neg (by omega)]
  refine ⟨by omega, by omega, by omega, fun k k1 k2 => ?_, fun k k1 k2 => ?_⟩
  · rw [ga, g, if_neg (by omega)]
    by_cases hk : k = i
    · rw [if_pos hk]; exact h2
    · rw [if_neg hk]; exact h.lo k k1 (by omega)
  · rw [ga, g]
    by_cases hk : k = j
    · rw [if_pos hk]; exact h1
    · rw [if_neg hk, if_neg (by omega)]; exact h.up k (by omega) k2

theorem OU {a b i j : Nat} {d : List Int} (h : DI a b i j d) (hb : b ≤ d.length) (hl : d.length < 2305843009213693951) : ∃ i' j' : Nat, DI a b i' j' d ∧ i ≤ i' ∧ j' ≤ j ∧ (j' < i' → j' + 1 = i') ∧ (i' ≤ j' → i' < j' ∧ gN d a < gN d i' ∧ gN d j' ≤ gN d a) ∧
    cU (a : Nat) d (i : Nat) (j : Nat) = dP d (a : Nat) (i' : Nat) (j' : Nat) := by
  have h1 := h.hi; have h2 := h.hij; have h3 := h.hj
  obtain ⟨i', e1, a1, a2, a3, a4⟩ := IW (body := fun s => dQ (a : Nat) (j : Nat) s.1 s.2) (d := d) (p := fun k => ¬ gN d a < gN d k) (j := j) (YF (a := a) (j := j) (d := d) (by omega) (by omega) hl) (j + 1 - i) i rfl h2
  obtain ⟨j', f1, c1, c2, c3, c4⟩ := CU (body := fun s => dO (a : Nat) (i' : Nat) s.1 s.2) (d := d) (p := fun k => gN d a < gN d k) (i := i') (m := j) (by omega) (SY (a := a) (i := i') (m := j) (d := d) (by omega) (by omega) (by omega) hl) j (Nat.le_refl _) a2
  have hend : i' ≤ j' → i' < j' ∧ gN d a < gN d i' ∧ gN d j' ≤ gN d a := fun hh => by
    have k1 : gN d a < gN d i' := Classical.byContradiction fun hn => a4 (by omega) hn
    have k2 : ¬ gN d a < gN d j' := c4 hh
    refine ⟨?_, k1, by omega⟩
    rcases Nat.lt_or_ge i' j' with h | h
    · exact h
    · have : i' = j' := by omega
      rw [this] at k1; exact absurd k1 k2
  refine ⟨i', j', ⟨by omega, by omega, by omega, fun k k1 k2 => ?_, fun k k1 k2 => ?_⟩, a1, c2, fun hh => by omega, hend, ?_⟩
  · by_cases hk : k < i
    · exact h.lo k k1 hk
    · have := a3 k (by omega) k2; omega
  · by_cases hk : j < k
    · exact h.up k hk k2
    · exact c3 k k1 (by omega)
  · unfold cU iJ
    rw [show lp (fun s : List Int × Int => dQ (a : Nat) (j : Nat) s.1 s.2) (d, (i : Int)) = some (d, (i' : Int)) from e1]
    simp only [Option.bind_some]
    unfold fL iM
    rw [show lp (fun s : List Int × Int => dO (a : Nat) (i' : Nat) s.1 s.2) (d, (j : Int)) = some (d, (j' : Int)) from f1]
    rfl

theorem YI {a b : Nat} : ∀ (n i j : Nat) (d : List Int), j + 1 - i = n → b ≤ d.length → d.length < 2305843009213693951 → DI a b i j d →
    ∃ (d' : List Int) (j' : Nat), lp (fun s : List Int × Int × Int => cU (a : Nat) s.1 s.2.1 s.2.2) (d, (i : Int), (j : Int)) = some (d', ((j' + 1 : Nat) : Int)) ∧ Rel (a + 1) b d d' ∧ DI a b (j' + 1) j' d' := by
  intro n
  induction n using Nat.strongRecOn with
  | ind n ih =>
    intro i j d h1 h2 h3 h
    obtain ⟨i', j', p1, p2, p3, p4, p5, p6⟩ := OU h h2 h3
    have q1 := p1.hi; have q2 := p1.hj; have q3 := p1.hij
    by_cases hlt : j' < i'
    · have hs : cU (a : Nat) d (i : Nat) (j : Nat) = some (.inr (d, (i' : Int))) := by
        rw [p6]
        unfold dP
        have : decide ((j' : Int) < (i' : Int)) = true := by simp; omega
        rw [this, cond_true]
      have := p4 hlt
      exact ⟨d, j', by rw [this]; exact cR hs, Rel.refl .., by rw [this]; exact p1⟩
    · obtain ⟨k1, k2, k3⟩ := p5 (by omega)
      have hs : cU (a : Nat) d (i : Nat) (j : Nat) = some (.inl (swp d i' j', ((i' + 1 : Nat) : Int), ((j' - 1 : Nat) : Int))) := by
        rw [p6]
        unfold dP
        have : decide ((j' : Int) < (i' : Int)) = false := by simp; omega
        rw [this, cond_false]
        simp only [Int.toNat_natCast]
        rw [aL (asN (by omega)), aL (asN (by omega)), aL (asN (by omega)), aL (asN (by omega)), wrN (x := (i' : Int) + 1) (n := i' + 1) (by omega) (by omega), wrN (x := (j' : Int) - 1) (n := j' - 1) (by omega) (by omega)]
        rfl
      obtain ⟨d', j2, e, r, p⟩ := ih (j' - 1 + 1 - (i' + 1)) (by omega) (i' + 1) (j' - 1) (swp d i' j') rfl (by rw [gF]; exact h2) (by rw [gF]; exact h3) (p1.swap h2 k1 k2 k3)
      exact ⟨d', j2, (eZ hs).trans e, (Rel.swp (i := i') (j := j') (by omega) (by omega) (by omega) (by omega)).trans r, p⟩

theorem LC {lo hi p : Nat} {d : List Int} (h0 : lo < hi) (hb : hi ≤ d.length) (hl : d.length < 2305843009213693951) (hp : lo ≤ p ∧ p < hi) :
    ∃ (m : Nat) (d' : List Int), eT d (lo : Int) (hi : Int) (p : Int) = some ((m : Int), d') ∧ lo < m ∧ m ≤ hi ∧ Rel lo hi d d' ∧ (∀ k, lo ≤ k → k < m → gN d' k ≤ gN d p) ∧ (∀ k, m ≤ k → k < hi → gN d p < gN d' k) := by
  unfold eT
  rw [aL (asN (by omega)), aL (asN (by omega)), aL (asN (by omega)), aL (asN (by omega)), wrN (x := (lo : Int) + 1) (n := lo + 1) (by omega) (by omega), wrN (x := (hi : Int) - 1) (n := hi - 1) (by omega) (by omega)]
  simp only [Int.toNat_natCast]
  have r0 : Rel lo hi d (swp d lo p) := Rel.swp (i := lo) (j := p) (by omega) (by omega) (by omega) (by omega)
  have l0 : (swp d lo p).length = d.length := gF ..
  have g := rL (d := d) (i := lo) (j := p) (by omega) (by omega)
  have g0 : gN (swp d lo p) lo = gN d p := by
    rw [g]
    by_cases hh : lo = p
    · rw [if_pos hh, hh]
    · rw [if_neg hh, if_pos rfl]
  have inv : DI lo hi (lo + 1) (hi - 1) (swp d lo p) := ⟨by omega, by omega, by omega, fun k k1 k2 => by omega, fun k k1 k2 => by omega⟩
  obtain ⟨d', j', e, r, pp⟩ := YI (a := lo) (b := hi) (hi - 1 + 1 - (lo + 1)) (lo + 1) (hi - 1) (swp d lo p) rfl (by rw [l0]; exact hb) (by rw [l0]; exact hl) inv
  have w1 := pp.hi; have w2 := pp.hj
  have ga : gN d' lo = gN d p := by rw [r.out lo (by omega), g0]
  unfold iL
  rw [show lp (fun s : List Int × Int × Int => cU (lo : Int) s.1 s.2.1 s.2.2) ((List.set (List.set d lo (List.getD d p default)) p (List.getD d lo default)), ((lo + 1 : Nat) : Int), ((hi - 1 : Nat) : Int)) = some (d', ((j' + 1 : Nat) : Int)) from e]
  refine ⟨j' + 1, d', rfl, by omega, by omega, r0.trans (r.mono (by omega) (Nat.le_refl _)), fun k k1 k2 => ?_, fun k k1 k2 => ?_⟩
  · rw [← ga]
    by_cases hk : k = lo
    · rw [hk]; exact Int.le_refl _
    · exact pp.lo k (by omega) k2
  · rw [← ga]; exact pp.up k (by omega) k2

theorem RC {lo i : Nat} {d : List Int} : ∀ (n i' : Nat), i' - i = n → nY lo i d → lo < i → (∀ k, i ≤ k → k < i' → gN d (k - 1) ≤ gN d k) → nY lo i' d
  | 0, i', h, hs, _, _ => fun p q p1 p2 p3 => hs p q p1 p2 (by omega)
  | n + 1, i', h, hs, hl, hk => by
    have ih := RC (d := d) n (i' - 1) (by omega) hs hl fun k k1 k2 => hk k k1 (by omega)
    intro p q p1 p2 p3
    by_cases hq : q = i' - 1
    · by_cases hp : p = q
      · rw [hp]; exact Int.le_refl _
      · have h1 := hk q (by omega) (by omega)
        have h2 := ih p (q - 1) p1 (by omega) (by omega)
        omega
    · exact ih p q p1 p2 (by omega)

theorem YG {lo hi : Nat} {d : List Int} (x : Int) (hb : hi ≤ d.length) (hl : d.length < 2305843009213693951) : ∀ (n i : Nat), hi - i = n → 1 ≤ i → i ≤ hi →
    ∃ i' : Nat, lp (fun s : List Int × Int => cN (lo : Nat) (hi : Nat) x s.1 s.2) (d, (i : Int)) = some (d, (i' : Int)) ∧ i ≤ i' ∧ i' ≤ hi ∧ (∀ k, i ≤ k → k < i' → gN d (k - 1) ≤ gN d k) := by
  intro n
  induction n with
  | zero =>
    intro i h1 h2 h3
    refine ⟨i, cR ?_, Nat.le_refl _, h3, fun k k1 k2 => by omega⟩
    show cN _ _ _ _ _ = _
    have : decide ((i : Int) < (hi : Int)) = false := by simp; omega
    simp only [cN, this]
    rw [aL (fun h => by cases h), aL (fun h => by cases h)]
    rfl
  | succ n ih =>
    intro i h1 h2 h3
    have hd : decide ((i : Int) < (hi : Int)) = true := by simp; omega
    have hs : cN (lo : Nat) (hi : Nat) x d (i : Nat) = if gN d i < gN d (i - 1) then some (.inr (d, (i : Int))) else some (.inl (d, ((i + 1 : Nat) : Int))) := by
      unfold cN
      rw [hd, wrN (x := (i : Int) - 1) (n := i - 1) (by omega) (by omega), wrN (x := (i : Int) + 1) (n := i + 1) (by omega) (by omega), aL fun _ => asN (by omega), aL fun _ => asN (by omega)]
      simp only [dA, cond_true, qM, Option.bind_some, Bool.true_and, Int.toNat_natCast, gN]
      by_cases h : d.getD i default < d.getD (i - 1) default <;> simp [h]
    by_cases h : gN d i < gN d (i - 1)
    · rw [if_pos h] at hs
      exact ⟨i, cR hs, Nat.le_refl _, h3, fun k k1 k2 => by omega⟩
    · rw [if_neg h] at hs
      obtain ⟨i', e, a1, a2, a3⟩ := ih (i + 1) (by omega) (by omega) (by omega)
      refine ⟨i', (eZ hs).trans e, by omega, a2, fun k k1 k2 => ?_⟩
      by_cases hk : k = i
      · rw [hk]; omega
      · exact a3 k (by omega) k2

theorem EM {lo hi : Nat} {d d' : List Int} (r : Rel lo hi d d') (h : lo = 0 ∨ ∀ k, lo ≤ k → k < hi → gN d (lo - 1) ≤ gN d k) : lo = 0 ∨ ∀ k, lo ≤ k → k < hi → gN d' (lo - 1) ≤ gN d' k := by
  by_cases h0 : lo = 0
  · exact .inl h0
  · rcases h with h | h
    · exact .inl h
    · exact .inr fun k k1 k2 => by
        rw [r.out (lo - 1) (by omega)]
        exact r.all (p := fun v => gN d (lo - 1) ≤ v) h k k1 k2

theorem XV {lo hi i : Nat} (x y : Int) : ∀ (j : Nat) (d : List Int), lo ≤ j → j ≤ i → i < d.length → d.length < 2305843009213693951 → CS lo j i d → (lo = 0 ∨ ∀ k, lo ≤ k → k ≤ i → gN d (lo - 1) ≤ gN d k) →
    ∃ d', lp (fun s : List Int × Int => cK (lo : Nat) (hi : Nat) x y s.1 s.2) (d, (j : Int)) = some d' ∧ Rel lo (i + 1) d d' ∧ nY lo (i + 1) d' := by
  intro j
  induction j with
  | zero =>
    intro d h1 h2 h3 h4 h5 h6
    refine ⟨d, cR ?_, Rel.refl .., h5.done h1 (by omega)⟩
    show cK _ _ _ _ _ _ = _
    have : decide ((1 : Int) ≤ ((0 : Nat) : Int)) = false := by simp
    simp only [cK, this, cond_false]
  | succ j ih =>
    intro d h1 h2 h3 h4 h5 h6
    have hd : decide ((1 : Int) ≤ ((j + 1 : Nat) : Int)) = true := by simp; omega
    have hs : cK (lo : Nat) (hi : Nat) x y d ((j + 1 : Nat) : Int) = if gN d (j + 1) < gN d j then some (.inl (swp d (j + 1) j, (j : Int))) else some (.inr d) := by
      unfold cK
      rw [hd, cond_true, wrN (x := ((j + 1 : Nat) : Int) - 1) (n := j) (by omega) (by omega), aL (asN (by omega)), aL (asN (by omega))]
      simp only [qM, Option.bind_some, Int.toNat_natCast, gN]
      by_cases h : d.getD (j + 1) default < d.getD j default
      · simp only [h, decide_true, Bool.not_true, cond_false, if_true]
        rw [aL (asN (by omega)), aL (asN (by omega)), aL (asN (by omega)), aL (asN (by omega))]
        rfl
      · simp only [h, decide_false, Bool.not_false, cond_true, if_false]
    by_cases h : gN d (j + 1) < gN d j
    · rw [if_pos h] at hs
      have hlo : lo < j + 1 := by
        rcases h6 with h6 | h6
        · omega
        · rcases Nat.lt_or_ge lo (j + 1) with hh | hh
          · exact hh
          · have : lo = j + 1 := by omega
            have h7 := h6 (j + 1) (by omega) h2
            rw [this] at h7
            simp only [Nat.add_sub_cancel] at h7
            omega
      have r1 : Rel lo (i + 1) d (swp d (j + 1) j) := Rel.swp (i := j + 1) (j := j) (by omega) (by omega) (by omega) (by omega)
      obtain ⟨d', e, r, s⟩ := ih (swp d (j + 1) j) (by omega) (by omega) (by rw [gF]; exact h3) (by rw [gF]; exact h4) (h5.next hlo h2 h3 h) ((EM r1 (h6.imp id fun h k a b => h k a (by omega))).imp id fun h k a b => h k a (by omega))
      exact ⟨d', (eZ hs).trans e, r1.trans r, s⟩
    · rw [if_neg h] at hs
      exact ⟨d, cR hs, Rel.refl .., h5.done h1 fun hh => h hh.2⟩

theorem aAL {lo hi i : Nat} (x y : Int) : ∀ (n j : Nat) (d : List Int), hi - j = n → i < j → hi ≤ d.length → d.length < 2305843009213693951 →
    ∃ d', lp (fun s : List Int × Int => cO (lo : Nat) (hi : Nat) x y s.1 s.2) (d, (j : Int)) = some d' ∧ Rel i hi d d' := by
  intro n
  induction n with
  | zero =>
    intro j d h1 h2 h3 h4
    refine ⟨d, cR ?_, Rel.refl ..⟩
    show cO _ _ _ _ _ _ = _
    have : decide ((j : Int) < (hi : Int)) = false := by simp; omega
    simp only [cO, this, cond_false]
  | succ n ih =>
    intro j d h1 h2 h3 h4
    have hd : decide ((j : Int) < (hi : Int)) = true := by simp; omega
    have hs : cO (lo : Nat) (hi : Nat) x y d (j : Nat) = if gN d j < gN d (j - 1) then some (.inl (swp d j (j - 1), ((j + 1 : Nat) : Int))) else some (.inr d) := by
      unfold cO
      rw [hd, cond_true, wrN (x := (j : Int) - 1) (n := j - 1) (by omega) (by omega), wrN (x := (j : Int) + 1) (n := j + 1) (by omega) (by omega), aL (asN (by omega)), aL (asN (by omega))]
      simp only [qM, Option.bind_some, Int.toNat_natCast, gN]
      by_cases h : d.getD j default < d.getD (j - 1) default
      · simp only [h, decide_true, Bool.not_true, cond_false, if_true]
        rw [aL (asN (by omega)), aL (asN (by omega)), aL (asN (by omega)), aL (asN (by omega))]
        rfl
      · simp only [h, decide_false, Bool.not_false, cond_true, if_false]
    by_cases h : gN d j < gN d (j - 1)
    · rw [if_pos h] at hs
      obtain ⟨d', e, r⟩ := ih (j + 1) (swp d j (j - 1)) (by omega) (by omega) (by rw [gF]; exact h3) (by rw [gF]; exact h4)
      exact ⟨d', (eZ hs).trans e, (Rel.swp (i := j) (j := j - 1) (by omega) (by omega) (by omega) (by omega)).trans r⟩
    · rw [if_neg h] at hs
      exact ⟨d, cR hs, Rel.refl ..⟩

theorem WA {lo hi i : Nat} (x : Int) {d : List Int} (h1 : lo < i) (h2 : i < hi) (h3 : hi ≤ d.length) (h4 : d.length < 2305843009213693951) :
    ∃ d', cJ d (lo : Nat) (hi : Nat) (i : Nat) x = some (.inl (d', (i : Int), IntKind.i64.wrap (x + 1))) ∧ Rel i hi d d' := by
  unfold cJ
  rw [wrN (x := (hi : Int) - (i : Int)) (n := hi - i) (by omega) (by omega)]
  by_cases h : (2 : Int) ≤ ((hi - i : Nat) : Int)
  · simp only [h, decide_true, cond_true]
    unfold fR
    rw [wrN (x := (i : Int) + 1) (n := i + 1) (by omega) (by omega)]
    obtain ⟨d', e, r⟩ := aAL (lo := lo) (hi := hi) (i := i) (i : Int) x (hi - (i + 1)) (i + 1) d rfl (by omega) h3 h4
    rw [e]
    exact ⟨d', rfl, r⟩
  · simp only [h, decide_false, cond_false]
    exact ⟨d, rfl, Rel.refl ..⟩

theorem YB {lo hi i : Nat} (x : Int) {d : List Int} (h1 : lo < i) (h2 : i ≤ hi) (h3 : hi ≤ d.length) (h4 : d.length < 2305843009213693951) (hs : nY lo i d) (hb : lo = 0 ∨ ∀ k, lo ≤ k → k < hi → gN d (lo - 1) ≤ gN d k) :
    (∃ (fl : Bool) (d' : List Int), cY d (lo : Nat) (hi : Nat) (i : Nat) x = some (.inr (.inr (fl, d'))) ∧ Rel lo hi d d' ∧ (fl = true → nY lo hi d')) ∨
    (∃ (d' : List Int) (i' : Nat), cY d (lo : Nat) (hi : Nat) (i : Nat) x = some (.inl (d', (i' : Int), IntKind.i64.wrap (x + 1))) ∧ Rel lo hi d d' ∧ lo < i' ∧ i' ≤ hi ∧ nY lo i' d') := by
  unfold cY
  obtain ⟨i', e, a1, a2, a3⟩ := YG (lo := lo) (hi := hi) x h3 h4 (hi - i) i rfl (by omega) h2
  rw [e]
  simp only [Option.bind_some]
  have hs' := RC (i' - i) i' rfl hs h1 a3
  unfold eF
  by_cases hi' : i' = hi
  · have : decide ((i' : Int) = (hi : Int)) = true := by simp; omega
    rw [this, cond_true]
    left
    exact ⟨true, d, rfl, Rel.refl .., fun _ => hi' ▸ hs'⟩
  · have hne : decide ((i' : Int) = (hi : Int)) = false := by simp; omega
    rw [hne, cond_false, wrN (x := (hi : Int) - (lo : Int)) (n := hi - lo) (by omega) (by omega)]
    by_cases h50 : ((hi - lo : Nat) : Int) < 50
    · simp only [h50, decide_true, cond_true]
      left
      exact ⟨false, d, rfl, Rel.refl .., fun h => by cases h⟩
    · simp only [h50, decide_false, cond_false]
      rw [wrN (x := (i' : Int) - 1) (n := i' - 1) (by omega) (by omega), wrN (x := (i' : Int) - (lo : Int)) (n := i' - lo) (by omega) (by omega)]
      simp only [Int.toNat_natCast]
      rw [aL (asN (by omega)), aL (asN (by omega)), aL (asN (by omega)), aL (asN (by omega))]
      have r1 : Rel lo hi d (swp d i' (i' - 1)) := Rel.swp (i := i') (j := i' - 1) (by omega) (by omega) (by omega) (by omega)
      have l1 : (swp d i' (i' - 1)).length = d.length := gF ..
      have g := rL (d := d) (i := i') (j := i' - 1) (by omega) (by omega)
      right
      by_cases hge : (2 : Int) ≤ ((i' - lo : Nat) : Int)
      · simp only [hge, decide_true, cond_true]
        unfold fT
        have ins : CS lo (i' - 1) (i' - 1) (swp d i' (i' - 1)) := ⟨fun p q p1 p2 p3 p4 p5 => by
          rw [g, g, if_neg p4, if_neg p5, if_neg (by omega), if_neg (by omega)]
          exact hs' p q p1 p2 (by omega), fun q q1 q2 => by omega⟩
        obtain ⟨d2, e2, r2, s2⟩ := XV (lo := lo) (hi := hi) (i := i' - 1) (i' : Int) x (i' - 1) (swp d i' (i' - 1)) (by omega) (Nat.le_refl _) (by rw [l1]; omega) (by rw [l1]; exact h4) ins ((EM r1 hb).imp id fun h k a b => h k a (by omega))
        have e2' : lp (fun s : List Int × Int => cK (lo : Int) (hi : Int) (i' : Int) x s.1 s.2) ((List.set (List.set d i' (List.getD d (i' - 1) default)) (i' - 1) (List.getD d i' default)), ((i' - 1 : Nat) : Int)) = some d2 := e2
        rw [e2']
        simp only [Option.bind_some]
        rw [show i' - 1 + 1 = i' by omega] at r2 s2
        have l2 : d2.length = d.length := by rw [r2.len, l1]
        obtain ⟨d3, e3, r3⟩ := WA (lo := lo) (hi := hi) (i := i') x (d := d2) (by omega) (by omega) (by omega) (by omega)
        rw [e3]
        refine ⟨d3, i', rfl, (r1.trans (r2.mono (Nat.le_refl _) (by omega))).trans (r3.mono (by omega) (Nat.le_refl _)), by omega, a2, fun p q p1 p2 p3 => ?_⟩
        rw [r3.out p (by omega), r3.out q (by omega)]
        exact s2 p q p1 p2 p3
      · simp only [hge, decide_false, cond_false]
        obtain ⟨d3, e3, r3⟩ := WA (lo := lo) (hi := hi) (i := i') x (d := swp d i' (i' - 1)) (by omega) (by omega) (by omega) (by omega)
        have e3' : cJ (List.set (List.set d i' (List.getD d (i' - 1) default)) (i' - 1) (List.getD d i' default)) (lo : Int) (hi : Int) (i' : Int) x = _ := e3
        rw [e3']
        refine ⟨d3, i', rfl, r1.trans (r3.mono (by omega) (Nat.le_refl _)), by omega, a2, ?_⟩
        have : i' = lo + 1 := by omega
        rw [this]; exact FU lo d3

theorem aAQ {lo hi : Nat} : ∀ (n x i : Nat) (d : List Int), 5 - x = n → lo < i → i ≤ hi → hi ≤ d.length → d.length < 2305843009213693951 → nY lo i d → (lo = 0 ∨ ∀ k, lo ≤ k → k < hi → gN d (lo - 1) ≤ gN d k) → x ≤ 5 →
    ∃ (fl : Bool) (d' : List Int), (lp (fun s : List Int × Int × Int => bX (lo : Nat) (hi : Nat) s.1 s.2.1 s.2.2) (d, (i : Int), (x : Int))).bind (Sum.elim (fun rr => eG rr) (fun rr => some (rr.1, rr.2))) = some (fl, d') ∧ Rel lo hi d d' ∧ (fl = true → nY lo hi d') := by
  intro n
  induction n with
  | zero =>
    intro x i d h1 h2 h3 h4 h5 h6 h7 h8
    have hs : bX (lo : Nat) (hi : Nat) d (i : Nat) (x : Nat) = some (.inr (.inl d)) := by
      have : decide ((x : Int) < 5) = false := by simp; omega
      simp only [bX, this, cond_false]
    rw [cR (show (fun s : List Int × Int × Int => bX (lo : Nat) (hi : Nat) s.1 s.2.1 s.2.2) (d, (i : Int), (x : Int)) = _ from hs)]
    exact ⟨false, d, rfl, Rel.refl .., fun h => by cases h⟩
  | succ n ih =>
    intro x i d h1 h2 h3 h4 h5 h6 h7 h8
    have hl2 : bX (lo : Nat) (hi : Nat) d (i : Nat) (x : Nat) = cY d (lo : Nat) (hi : Nat) (i : Nat) (x : Nat) := by
      have : decide ((x : Int) < 5) = true := by simp; omega
      simp only [bX, this, cond_true]
    rcases YB (lo := lo) (hi := hi) (x : Int) h2 h3 h4 h5 h6 h7 with ⟨fl, d', e, r, s⟩ | ⟨d', i', e, r, k1, k2, s⟩
    · rw [cR (show (fun s : List Int × Int × Int => bX (lo : Nat) (hi : Nat) s.1 s.2.1 s.2.2) (d, (i : Int), (x : Int)) = _ from hl2.trans e)]
      exact ⟨fl, d', rfl, r, s⟩
    · rw [wrN (x := (x : Int) + 1) (n := x + 1) (by omega) (by omega)] at e
      obtain ⟨fl, d2, e2, r2, s2⟩ := ih (x + 1) i' d' (by omega) k1 k2 (by rw [r.len]; exact h4) (by rw [r.len]; exact h5) s (EM r h7) (by omega)
      rw [eZ (show (fun s : List Int × Int × Int => bX (lo : Nat) (hi : Nat) s.1 s.2.1 s.2.2) (d, (i : Int), (x : Int)) = _ from hl2.trans e)]
      exact ⟨fl, d2, e2, r.trans r2, s2⟩

theorem XJ {lo hi : Nat} {d : List Int} (h0 : lo < hi) (h1 : hi ≤ d.length) (h2 : d.length < 2305843009213693951) (hb : lo = 0 ∨ ∀ k, lo ≤ k → k < hi → gN d (lo - 1) ≤ gN d k) :
    ∃ (fl : Bool) (d' : List Int), eK d (lo : Int) (hi : Int) = some (fl, d') ∧ Rel lo hi d d' ∧ (fl = true → nY lo hi d') := by
  unfold eK fS
  rw [wrN (x := (lo : Int) + 1) (n := lo + 1) (by omega) (by omega)]
  exact aAQ (lo := lo) (hi := hi) (5 - 0) 0 (lo + 1) d rfl (by omega) (by omega) h1 h2 (FU lo d) hb (by omega)

end Go.Abs
namespace Go.Abs
open Go
abbrev PS := List Int × Int × Int × Int × Bool × Bool

abbrev PR := List Int → Int → Int → Int → Option (List Int)

def xA (a b : Nat) (d d' : List Int) : Prop := Rel a b d d' ∧ nY a b d'

structure wT (a b lim : Nat) (d : List Int) : Prop where
  ab : a ≤ b
  bl : b ≤ d.length
  len : d.length < 2305843009213693951
  bnd : a = 0 ∨ ∀ k, a ≤ k → k < b → gN d (a - 1) ≤ gN d k
  lim : lim ≤ 100

def EE (rec : PR) (N : Nat) : Prop := ∀ (d : List Int) (a b lim : Nat), wT a b lim d → (rec d (a : Int) (b : Int) (lim : Int) = none ∧ N ≤ b - a) ∨ ∃ d', rec d (a : Int) (b : Int) (lim : Int) = some d' ∧ xA a b d d'

def BY (N a b : Nat) (d : List Int) (F : Option (PS ⊕ List Int)) : Prop :=
  (F = none ∧ N + 1 ≤ b - a) ∨ (∃ d', F = some (.inr d') ∧ xA a b d d') ∨
  ∃ (d' : List Int) (a' b' lim' : Nat) (wb wp : Bool), F = some (.inl (d', (a' : Int), (b' : Int), (lim' : Int), wb, wp)) ∧ b' - a' < b - a ∧ wT a' b' lim' d' ∧ ∀ d'', xA a' b' d' d'' → xA a b d d''

theorem xA.pre {a b : Nat} {d d1 d' : List Int} (r : Rel a b d d1) (h : xA a b d1 d') : xA a b d d' := ⟨r.trans h.1, h.2⟩

theorem BY.pre {N a b : Nat} {d d1 : List Int} {F : Option (PS ⊕ List Int)} (r : Rel a b d d1) (h : BY N a b d1 F) : BY N a b d F := by
  rcases h with h | ⟨d', h1, h2⟩ | ⟨d', a', b', lim', wb, wp, h1, h2, h3, h4⟩
  · exact .inl h
  · exact .inr (.inl ⟨d', h1, h2.pre r⟩)
  · exact .inr (.inr ⟨d', a', b', lim', wb, wp, h1, h2, h3, fun d'' hg => (h4 d'' hg).pre r⟩)

theorem wT.rel {a b lim : Nat} {d d1 : List Int} (h : wT a b lim d) (r : Rel a b d d1) : wT a b lim d1 :=
  ⟨h.ab, by rw [r.len]; exact h.bl, by rw [r.len]; exact h.len, EM r h.bnd, h.lim⟩

theorem ML {a m b : Nat} {d : List Int} (hm : m < b) (h1 : ∀ k, a ≤ k → k < m → gN d k ≤ gN d m) (h2 : ∀ k, m < k → k < b → gN d m ≤ gN d k) (s1 : nY a m d) (s2 : nY (m + 1) b d) : nY a b d := by
  intro p q p1 p2 p3
  by_cases hq : q < m
  · exact s1 p q p1 p2 hq
  · by_cases hp : m < p
    · exact s2 p q hp p2 p3
    · have g1 : gN d p ≤ gN d m := by
        by_cases e : p = m
        · rw [e]; exact Int.le_refl _
        · exact h1 p p1 (by omega)
      have g2 : gN d m ≤ gN d q := by
        by_cases e : q = m
        · rw [e]; exact Int.le_refl _
        · exact h2 q (by omega) p3
      omega

theorem VZ {rec : PR} {N a b lim p : Nat} {d : List Int} (hrec : EE rec N) (hv : wT a b lim d) (h12 : 12 < b - a) (hp : a ≤ p ∧ p < b) (wb wp : Bool) (len : Int) :
    BY N a b d (gI rec d (a : Int) (b : Int) (lim : Int) wb wp len (p : Int)) := by
  have hb := hv.bl; have hl := hv.len
  -- with all equal ones on the left
  have eqc : 0 < a → ¬ gN d (a - 1) < gN d p → BY N a b d ((eT d (a : Int) (b : Int) (p : Int)).bind fun x20 => some (.inl (x20.2, x20.1, (b : Int), (lim : Int), wb, wp))) := by
    intro ha hn
    obtain ⟨m, d', e, m1, m2, r, q1, q2⟩ := LC (lo := a) (hi := b) (p := p) (d := d) (by omega) hb hl hp
    have hall : ∀ k, a ≤ k → k < b → gN d p ≤ gN d' k := by
      refine r.all (p := fun v => gN d p ≤ v) fun k k1 k2 => ?_
      rcases hv.bnd with h | h
      · omega
      · have := h k k1 k2; omega
    rw [e]
    refine .inr (.inr ⟨d', m, b, lim, wb, wp, rfl, by omega, ⟨m2, by rw [r.len]; exact hb, by rw [r.len]; exact hl, .inr fun k k1 k2 => ?_, hv.lim⟩, fun d'' hg => ⟨r.trans (hg.1.mono (by omega) (Nat.le_refl _)), fun x y x1 x2 x3 => ?_⟩⟩)
    · have := q1 (m - 1) (by omega) (by omega); have := q2 k k1 k2; omega
    · by_cases hx : m ≤ x
      · exact hg.2 x y hx x2 x3
      · rw [hg.1.out x (by omega)]
        have g1 := q1 x x1 (by omega)
        by_cases hy : y < m
        · rw [hg.1.out y (by omega)]
          have g2 := hall y (by omega) (by omega); omega
        · have g2 := hg.1.all (p := fun v => gN d p < v) q2 y (by omega) x3
          omega
  -- a partition, and the lesser part first
  have ptc : BY N a b d ((fV d (a : Int) (b : Int) (p : Int)).bind fun x23 =>
      aZ ((8 : Int) ≠ 0) <|
      cond (decide ((IntKind.i64.wrap (x23.1.1 - (a : Int))) < (IntKind.i64.wrap ((b : Int) - x23.1.1))))
      ((rec x23.2 (a : Int) x23.1.1 (lim : Int)).bind fun x28 =>
      some (.inl (x28, IntKind.i64.wrap (x23.1.1 + (1 : Int)), (b : Int), (lim : Int), decide ((IntKind.i64.wrap (Int.tdiv len (8 : Int))) ≤ (IntKind.i64.wrap (x23.1.1 - (a : Int)))), x23.1.2)))
      ((rec x23.2 (IntKind.i64.wrap (x23.1.1 + (1 : Int))) (b : Int) (lim : Int)).bind fun x31 =>
      some (.inl (x31, (a : Int), x23.1.1, (lim : Int), decide ((IntKind.i64.wrap (Int.tdiv len (8 : Int))) ≤ (IntKind.i64.wrap ((b : Int) - x23.1.1))), x23.1.2)))) := by
    obtain ⟨m, fl, d1, e, m1, m2, r, q1, q2⟩ := NZ (lo := a) (hi := b) (p := p) (d := d) (by omega) hb hl hp
    have hv1 := hv.rel r
    rw [e]
    simp only [Option.bind_some]
    rw [aL (by decide), wrN (x := (m : Int) + 1) (n := m + 1) (by omega) (by omega)]
    have vL : wT a m lim d1 := ⟨m1, by have := hv1.bl; omega, hv1.len, hv1.bnd.imp id fun h k k1 k2 => h k k1 (by omega), hv.lim⟩
    have vR : wT (m + 1) b lim d1 := ⟨by omega, hv1.bl, hv1.len, .inr fun k k1 k2 => by simpa using q2 k (by omega) k2, hv.lim⟩
    cases decide ((IntKind.i64.wrap ((m : Int) - (a : Int))) < (IntKind.i64.wrap ((b : Int) - (m : Int)))) with
    | true =>
      rw [cond_true]
      rcases hrec d1 a m lim vL with ⟨hn, hN⟩ | ⟨d2, e2, g2⟩
      · rw [hn]; exact .inl ⟨rfl, by omega⟩
      · rw [e2]
        simp only [Option.bind_some]
        have top : gN d2 m = gN d1 m := g2.1.out m (by omega)
        refine .inr (.inr ⟨d2, m + 1, b, lim, _, _, rfl, by omega, ⟨by omega, by rw [g2.1.len]; exact hv1.bl, by rw [g2.1.len]; exact hv1.len, .inr fun k k1 k2 => ?_, hv.lim⟩, fun d3 hg => ⟨(r.trans (g2.1.mono (Nat.le_refl _) (by omega))).trans (hg.1.mono (by omega) (Nat.le_refl _)), ?_⟩⟩)
        · rw [show m + 1 - 1 = m by omega, top, g2.1.out k (by omega)]; exact q2 k (by omega) k2
        · have o3 : ∀ k, k ≤ m → gN d3 k = gN d2 k := fun k hk => hg.1.out k (by omega)
          refine ML m2 (fun k k1 k2 => ?_) (fun k k1 k2 => ?_) (fun x y x1 x2 x3 => by rw [o3 x (by omega), o3 y (by omega)]; exact g2.2 x y x1 x2 x3) hg.2
          · rw [o3 k (by omega), o3 m (by omega), top]
            exact g2.1.all (p := fun v => v ≤ gN d1 m) q1 k k1 k2
          · rw [o3 m (by omega), top]
            exact hg.1.all (p := fun v => gN d1 m ≤ v) (fun k k1 k2 => by rw [g2.1.out k (by omega)]; exact q2 k (by omega) k2) k (by omega) k2
    | false =>
      rw [cond_false]
      rcases hrec d1 (m + 1) b lim vR with ⟨hn, hN⟩ | ⟨d2, e2, g2⟩
      · rw [hn]; exact .inl ⟨rfl, by omega⟩
      · rw [e2]
        simp only [Option.bind_some]
        have low : ∀ k, k ≤ m → gN d2 k = gN d1 k := fun k hk => g2.1.out k (by omega)
        refine .inr (.inr ⟨d2, a, m, lim, _, _, rfl, by omega, ⟨m1, by rw [g2.1.len]; have := hv1.bl; omega, by rw [g2.1.len]; exact hv1.len, ?_, hv.lim⟩, fun d3 hg => ⟨(r.trans (g2.1.mono (by omega) (Nat.le_refl _))).trans (hg.1.mono (Nat.le_refl _) (by omega)), ?_⟩⟩)
        · rcases hv1.bnd with h | h
          · exact .inl h
          · exact .inr fun k k1 k2 => by rw [low (a - 1) (by omega), low k (by omega)]; exact h k k1 (by omega)
        · have o3 : ∀ k, m ≤ k → gN d3 k = gN d2 k := fun k hk => hg.1.out k (by omega)
          refine ML m2 (fun k k1 k2 => ?_) (fun k k1 k2 => ?_) hg.2 (fun x y x1 x2 x3 => by rw [o3 x (by omega), o3 y (by omega)]; exact g2.2 x y x1 x2 x3)
          · rw [o3 m (Nat.le_refl _), low m (Nat.le_refl _)]
            exact hg.1.all (p := fun v => v ≤ gN d1 m) (fun k k1 k2 => by rw [low k (by omega)]; exact q1 k k1 k2) k k1 k2
          · rw [o3 m (Nat.le_refl _), low m (Nat.le_refl _), o3 k (by omega)]
            exact g2.1.all (p := fun v => gN d1 m ≤ v) (fun k k1 k2 => q2 k (by omega) k2) k (by omega) k2
  unfold gI
  by_cases ha : 0 < a
  · have hd : decide ((0 : Int) < (a : Int)) = true := by simp; omega
    rw [hd, wrN (x := (a : Int) - 1) (n := a - 1) (by omega) (by omega), aL fun _ => asN (by omega), aL fun _ => asN (by omega)]
    simp only [dA, cond_true, qM, Option.bind_some, Bool.true_and, Int.toNat_natCast]
    by_cases hlt : gN d (a - 1) < gN d p
    · simp only [gN] at hlt
      simp only [hlt, decide_true, Bool.not_true, cond_false]
      exact ptc
    · have := eqc ha hlt
      simp only [gN] at hlt
      simp only [hlt, decide_false, Bool.not_false, cond_true]
      exact this
  · have hd : decide ((0 : Int) < (a : Int)) = false := by simp; omega
    rw [hd, aL (fun h => by cases h), aL (fun h => by cases h)]
    simp only [dA, cond_false, Option.bind_some, Bool.false_and]
    exact ptc

theorem VR {rec : PR} {N a b lim p : Nat} {d : List Int} (hrec : EE rec N) (hv : wT a b lim d) (h12 : 12 < b - a) (hp : a ≤ p ∧ p < b) (wb wp : Bool) (len hint : Int) :
    BY N a b d (gJ rec d (a : Int) (b : Int) (lim : Int) wb wp len (p : Int) hint) := by
  unfold gJ
  cases ((wb && wp) && (decide (hint = (1 : Int)))) with
  | false => exact VZ hrec hv h12 hp wb wp len
  | true =>
    rw [cond_true]
    obtain ⟨fl, d', e, r, s⟩ := XJ (lo := a) (hi := b) (d := d) (by omega) hv.bl hv.len hv.bnd
    rw [e]
    simp only [Option.bind_some]
    cases fl with
    | true => exact .inr (.inl ⟨d', rfl, r, s rfl⟩)
    | false => exact (VZ hrec (hv.rel r) h12 hp wb wp len).pre r

theorem UH {rec : PR} {N a b lim : Nat} {d : List Int} (hrec : EE rec N) (hv : wT a b lim d) (h12 : 12 < b - a) (wb wp : Bool) (len : Int) :
    BY N a b d (gG rec d (a : Int) (b : Int) (lim : Int) wb wp len) := by
  have hb := hv.bl; have hl := hv.len
  unfold gG
  obtain ⟨p, h, e, p1, p2⟩ := SI (lo := a) (hi := b) (d := d) h12 hb hl
  rw [e]
  simp only [Option.bind_some]
  by_cases h2 : h = 2
  · simp only [h2, decide_true, cond_true]
    obtain ⟨d', e2, r⟩ := UO (lo := a) (hi := b) (d := d) (by omega) hb (by omega)
    rw [e2]
    simp only [Option.bind_some]
    rw [wrN (x := (b : Int) - 1) (n := b - 1) (by omega) (by omega), wrN (x := (p : Int) - (a : Int)) (n := p - a) (by omega) (by omega), wrN (x := ((b - 1 : Nat) : Int) - ((p - a : Nat) : Int)) (n := b - 1 - (p - a)) (by omega) (by omega)]
    exact (VR hrec (hv.rel r) h12 ⟨by omega, by omega⟩ wb wp len 1).pre r
  · simp only [h2, decide_false, cond_false]
    exact VR hrec hv h12 ⟨p1, p2⟩ wb wp len h

theorem aAn {rec : PR} {N a b lim : Nat} {d : List Int} (hrec : EE rec N) (hv : wT a b lim d) (wb wp : Bool) :
    BY N a b d (eC rec d (a : Int) (b : Int) (lim : Int) wb wp) := by
  have hb := hv.bl; have hl := hv.len; have hab := hv.ab
  unfold eC
  rw [wrN (x := (b : Int) - (a : Int)) (n := b - a) (by omega) (by omega)]
  by_cases h12 : ((b - a : Nat) : Int) ≤ 12
  · simp only [h12, decide_true, cond_true]
    obtain ⟨d', e, r, s⟩ := XB (lo := a) (hi := b) (d := d) hb (by omega) hab
    rw [e]
    exact .inr (.inl ⟨d', rfl, r, s⟩)
  · simp only [h12, decide_false, cond_false]
    by_cases h0 : lim = 0
    · have : decide ((lim : Int) = 0) = true := by simp; exact h0
      rw [this, cond_true]
      obtain ⟨d', e, r, s⟩ := VI (lo := a) (hi := b) (d := d) (by omega) hb hl
      rw [e]
      exact .inr (.inl ⟨d', rfl, r, s⟩)
    · have : decide ((lim : Int) = 0) = false := by simp; exact h0
      rw [this, cond_false]
      cases wb with
      | true => exact UH hrec hv (by omega) true wp _
      | false =>
        simp only [Bool.not_false, cond_true]
        obtain ⟨d', e, r⟩ := TZ (lo := a) (hi := b) (d := d) (by omega) hb hl
        rw [e]
        simp only [Option.bind_some]
        have hlim := hv.lim
        rw [wrN (x := (lim : Int) - 1) (n := lim - 1) (by omega) (by omega)]
        have hv' := hv.rel r
        exact (UH hrec ⟨hv'.ab, hv'.bl, hv'.len, hv'.bnd, by omega⟩ (by omega) false wp _).pre r

theorem ZW {S R : Type} {body : S → Option (S ⊕ R)} {s : S} (h : body s = none) : lp body s = none := by
  cases e : lp body s with
  | none => rfl
  | some r =>
    obtain ⟨k, hk⟩ := EH.1 e
    cases k with
    | zero => simp [iter] at hk
    | succ k => simp [iter, h] at hk

theorem aAp {rec : PR} {N : Nat} (hrec : EE rec N) : ∀ (n a b lim : Nat) (d : List Int) (wb wp : Bool), b - a = n → wT a b lim d →
    (lp (fun s : PS => eC rec s.1 s.2.1 s.2.2.1 s.2.2.2.1 s.2.2.2.2.1 s.2.2.2.2.2) (d, (a : Int), (b : Int), (lim : Int), wb, wp) = none ∧ N + 1 ≤ b - a) ∨
    ∃ d', lp (fun s : PS => eC rec s.1 s.2.1 s.2.2.1 s.2.2.2.1 s.2.2.2.2.1 s.2.2.2.2.2) (d, (a : Int), (b : Int), (lim : Int), wb, wp) = some d' ∧ xA a b d d' := by
  intro n
  induction n using Nat.strongRecOn with
  | ind n ih =>
    intro a b lim d wb wp hn hv
    rcases aAn hrec hv wb wp with ⟨h1, h2⟩ | ⟨d', h1, h2⟩ | ⟨d', a', b', lim', wb', wp', h1, h2, h3, h4⟩
    · exact .inl ⟨ZW h1, h2⟩
    · exact .inr ⟨d', cR h1, h2⟩
    · rw [eZ (show (fun s : PS => eC rec s.1 s.2.1 s.2.2.1 s.2.2.2.1 s.2.2.2.2.1 s.2.2.2.2.2) (d, (a : Int), (b : Int), (lim : Int), wb, wp) = _ from h1)]
      rcases ih (b' - a') (by omega) a' b' lim' d' wb' wp' rfl h3 with ⟨g1, g2⟩ | ⟨d2, g1, g2⟩
      · exact .inl ⟨g1, by omega⟩
      · exact .inr ⟨d2, g1, h4 d2 g2⟩

theorem MT : ∀ k : Nat, EE (dD k) k
  | 0 => fun _ _ _ _ _ => .inl ⟨rfl, Nat.zero_le _⟩
  | k + 1 => fun d a b lim hv => by
    show (fN (dD k) d a b lim = none ∧ _) ∨ ∃ d', fN (dD k) d a b lim = some d' ∧ _
    unfold fN kF
    rcases aAp (MT k) (b - a) a b lim d true true rfl hv with ⟨h1, h2⟩ | ⟨d', h1, h2⟩
    · rw [h1]; exact .inl ⟨rfl, h2⟩
    · rw [h1]; exact .inr ⟨d', rfl, h2⟩

theorem aAC {a b lim : Nat} {d : List Int} (hv : wT a b lim d) : ∃ d', iZ d (a : Int) (b : Int) (lim : Int) = some d' ∧ xA a b d d' := by
  unfold iZ
  obtain ⟨d', e, g⟩ : ∃ d', dD (b - a + 1) d (a : Int) (b : Int) (lim : Int) = some d' ∧ xA a b d d' := by
    rcases MT (b - a + 1) d a b lim hv with ⟨_, h⟩ | h
    · omega
    · exact h
  cases hf : NL (fun k => dD k d (a : Int) (b : Int) (lim : Int)) with
  | none =>
    exfalso
    unfold NL at hf
    have hex : ∃ k r, dD k d (a : Int) (b : Int) (lim : Int) = some r := ⟨_, d', e⟩
    rw [dif_pos hex] at hf
    obtain ⟨r, hr⟩ := Classical.choose_spec hex
    have hf' : dD (Classical.choose hex) d (a : Int) (b : Int) (lim : Int) = none := hf
    rw [hr] at hf'
    cases hf'
  | some r =>
    obtain ⟨k, hk⟩ := KL hf
    rcases MT k d a b lim hv with ⟨h, _⟩ | ⟨d2, h, g2⟩
    · rw [h] at hk; cases hk
    · rw [h] at hk; cases hk; exact ⟨_, rfl, g2⟩

theorem ZY {d : List Int} (hl : d.length < 2305843009213693951) : ∃ d', jV d = some d' ∧ d'.Perm d ∧ d'.Pairwise (· ≤ ·) := by
  unfold jV
  have hL : ∃ L : Nat, jO (IntKind.u64.wrap ((List.length d : Nat) : Int)) = some (L : Int) ∧ L ≤ 100 := by
    rw [DE (by omega) (by omega)]
    by_cases h0 : d.length = 0
    · rw [h0]; exact ⟨0, WN, by omega⟩
    · obtain ⟨k, e, h1, _⟩ := UG (x := ((List.length d : Nat) : Int)) (by omega) (by omega)
      exact ⟨k + 1, by rw [e]; rfl, by omega⟩
  obtain ⟨L, eL, hL⟩ := hL
  rw [eL]
  simp only [Option.bind_some]
  obtain ⟨d', e, g⟩ := aAC (a := 0) (b := d.length) (lim := L) (d := d) ⟨Nat.zero_le _, Nat.le_refl _, hl, .inl rfl, hL⟩
  have e' : iZ d 0 ((List.length d : Nat) : Int) (L : Int) = some d' := e
  rw [e']
  refine ⟨d', rfl, g.1.perm, List.pairwise_iff_getElem.2 fun i j hi hj hij => ?_⟩
  have := g.2 i j (Nat.zero_le _) (by omega) (by rw [g.1.len] at hj; exact hj)
  simp only [gN, List.getD_eq_getElem?_getD, List.getElem?_eq_getElem hi, List.getElem?_eq_getElem hj] at this
  exact this

theorem YW {d s : List Int} (hl : d.length < 2305843009213693951) (hp : s.Perm d) (hs : s.Pairwise (· ≤ ·)) : jV d = some s := by
  obtain ⟨d', e, p, q⟩ := ZY hl
  rw [e]
  congr 1
  exact (p.trans hp.symm).eq_of_pairwise (le := (· ≤ ·)) (fun a b _ _ h1 h2 => Int.le_antisymm h1 h2) q hs

end Go.Abs
namespace Go.Abs
open Go
def kX (frm : Int) (l : List aK) (c : List Int) : List Int := l.foldl (fun c e => if frm < e.At then mM e.At c else c) c

def uT (frm : Int) (l : List aK) (m : List (Int × Int)) : List (Int × Int) := l.foldl (fun m e => if frm < e.At then qH m e.At 1 else m) m

def lF (l : List aK) (frm : Int) : List Int × Int :=
  if !lW l then ([], 2) else if !pK l then ([], 20) else if frm < 0 ∨ 1125899906842624 < frm then ([], 13) else if frm = 1125899906842624 then ([], 0) else (kX frm l [frm], 0)

theorem CH {k v : Int} : ∀ {m : List (Int × Int)}, k ∈ m.map (·.1) → (qH m k v).map (·.1) = m.map (·.1)
  | [], h => by simp at h
  | p :: m, h => by
    by_cases hp : p.1 = k
    · simp [qH, hp]
    · simp only [List.map_cons, List.mem_cons] at h
      rcases h with h | h
      · exact absurd h.symm hp
      · simp only [qH, hp, if_false, List.map_cons, CH h]

theorem KU {k v : Int} {m : List (Int × Int)} (h : k ∉ m.map (·.1)) : (qH m k v).map (·.1) = m.map (·.1) ++ [k] := by
  rw [FQ fun p hp e => h (List.mem_map.2 ⟨p, hp, e⟩)]; simp

theorem HK {t : Int} : ∀ {ps : List Int}, t ∉ ps → (mM t ps).Perm (t :: ps)
  | [], _ => List.Perm.refl _
  | p :: r, h => by
    simp only [List.mem_cons, not_or] at h
    unfold mM
    rw [if_neg (fun e => h.1 e.symm)]
    split
    · exact List.Perm.refl _
    · exact (List.Perm.cons p (HK h.2)).trans (List.Perm.swap ..)

theorem zS {frm : Int} : ∀ {l : List aK} {c : List Int} {m : List (Int × Int)}, (∀ e ∈ l, e.At < 1125899906842624) → Inc (frm - 1) c → (m.map (·.1)).Perm c →
    ((uT frm l m).map (·.1)).Perm (kX frm l c) ∧ Inc (frm - 1) (kX frm l c)
  | [], _, _, _, hi, hp => ⟨hp, hi⟩
  | e :: l, c, m, he, hi, hp => by
    have hl : ∀ e ∈ l, e.At < 1125899906842624 := fun q hq => he q (List.mem_cons_of_mem _ hq)
    by_cases h : frm < e.At
    · have e1 : uT frm (e :: l) m = uT frm l (qH m e.At 1) := by simp [uT, h]
      have e2 : kX frm (e :: l) c = kX frm l (mM e.At c) := by simp [kX, h]
      rw [e1, e2]
      refine zS hl (DV hi (by omega) (he e (by simp))) ?_
      by_cases hm : e.At ∈ m.map (·.1)
      · rw [CH hm, BO hi (hp.mem_iff.1 hm)]; exact hp
      · rw [KU hm]
        exact ((List.perm_append_comm).trans (List.Perm.cons _ hp)).trans (HK fun hc => hm (hp.mem_iff.2 hc)).symm
    · have e1 : uT frm (e :: l) m = uT frm l m := by simp [uT, h]
      have e2 : kX frm (e :: l) c = kX frm l c := by simp [kX, h]
      rw [e1, e2]
      exact zS hl hi hp

theorem zG {frm : Int} : ∀ {l : List aK} {c : List Int}, (kX frm l c).length ≤ c.length + l.length
  | [], c => by simp [kX]
  | e :: l, c => by
    by_cases h : frm < e.At
    · have e2 : kX frm (e :: l) c = kX frm l (mM e.At c) := by simp [kX, h]
      rw [e2]
      have h1 := zG (frm := frm) (l := l) (c := mM e.At c)
      have h2 := DY (t := e.At) (ps := c)
      simp only [List.length_cons]; omega
    · have e2 : kX frm (e :: l) c = kX frm l c := by simp [kX, h]
      rw [e2]
      have h1 := zG (frm := frm) (l := l) (c := c)
      simp only [List.length_cons]; omega

theorem MZ : ∀ {ps : List Int} {last : Int}, Inc last ps → ps.Pairwise (· < ·)
  | [], _, _ => List.Pairwise.nil
  | p :: r, last, h => List.Pairwise.cons (fun x hx => (h.2.above x hx).1) (MZ h.2)

theorem ZQ {ps : List Int} {last : Int} (h : Inc last ps) : ps.Pairwise (· ≤ ·) := (MZ h).imp fun h => by omega

theorem PK {frm : Int} {l : List aK} (hl : l.length ≤ 1000000) (m : List (Int × Int)) : lp (fun s : List (Int × Int) × Int => mN frm l ((l.length : Nat) : Int) s.1 s.2) (m, 0) = some (uT frm l m) := by
  refine pV (l := l) (body := fun s : List (Int × Int) × Int => mN frm l ((l.length : Nat) : Int) s.1 s.2) (fun (s : List (Int × Int)) i => (s, i)) (fun s r => uT frm r s) (fun _ _ => True) m ?_ ?_ trivial
  · intro i a r s ha _
    left
    obtain ⟨d1, d2, d3, d4⟩ := idx ha (by omega)
    by_cases h : frm < a.At
    · refine ⟨qH s a.At 1, ?_, trivial, by simp [uT, h]⟩
      simp only [mN, pM, d1, cond_true, aL d2, d3, d4, h, decide_true]
    · refine ⟨s, ?_, trivial, by simp [uT, h]⟩
      simp only [mN, pM, d1, cond_true, aL d2, d3, d4, h, decide_false, cond_false]
  · intro s _
    simp only [mN, gH, cond_false]; rfl

theorem JO {m : List (Int × Int)} : ∀ {q : List (Int × Int)} {out : List Int}, out.length + q.length ≤ 1000000 → oZ (fun (s : List Int) (x : Int × Int) => pS m s x.1 x.2) out q = some (out ++ q.map (·.1))
  | [], out, _ => by simp [oZ]
  | x :: q, out, h => by
    simp only [List.length_cons] at h
    have e1 : pS m out x.1 x.2 = some (out ++ [x.1]) := by
      unfold pS
      rw [aL (by simp only [List.length_cons, List.length_nil]; omega)]
    simp only [oZ, e1, Option.bind_some]
    rw [JO (by simp only [List.length_append, List.length_cons, List.length_nil]; omega)]
    simp

theorem FA {l : List aK} (hl : okL l) (frm : Int) : rK l frm = some (lF l frm) := by
  unfold rK lF
  rw [RG hl, Option.bind_some]
  cases hm : lW l with
  | false => simp
  | true =>
    simp only [Bool.not_true, cond_false, Bool.false_eq_true, if_false, UR hl, Option.bind_some]
    cases ht : pK l with
    | false => simp
    | true =>
      simp only [Bool.not_true, cond_false, Bool.false_eq_true, if_false]
      by_cases h1 : frm < 0 ∨ 1125899906842624 < frm
      · have : (decide (frm < 0) || decide (1125899906842624 < frm)) = true := by simpa using h1
        rw [this, cond_true, if_pos h1]
      · have : (decide (frm < 0) || decide (1125899906842624 < frm)) = false := by simpa using h1
        rw [this, cond_false, if_neg h1]
        by_cases h2 : frm = 1125899906842624
        · simp [h2]
        · rw [decide_eq_false h2, cond_false, if_neg h2]
          have hn := (rS hm).1
          have hat : ∀ e ∈ l, e.At < 1125899906842624 := fun e he => (vH hm he).2.2.1
          obtain ⟨p1, p2⟩ := zS (frm := frm) (l := l) (c := [frm]) (m := [(frm, 1)]) hat ⟨⟨by omega, by omega⟩, trivial⟩ (List.Perm.refl _)
          have hcl := zG (frm := frm) (l := l) (c := [frm])
          have hsl : (uT frm l [(frm, 1)]).length = (kX frm l [frm]).length := by have := p1.length_eq; simpa using this
          simp only [List.length_cons, List.length_nil] at hcl
          have e0 : qH ([] : List (Int × Int)) frm 1 = [(frm, 1)] := rfl
          rw [e0]
          unfold wH
          rw [PK (by omega), Option.bind_some]
          unfold sK
          rw [aL (by omega)]
          unfold vG
          refine WE fun q hq => ?_
          rw [JO (by have := hq.length_eq; simp only [List.length_nil]; omega), Option.bind_some, List.nil_append]
          unfold wB vN
          have hp : (kX frm l [frm]).Perm (q.map (·.1)) := ((hq.map (·.1)).trans p1).symm
          rw [YW (s := kX frm l [frm]) (by have := hp.length_eq; omega) hp (ZQ p2)]
          rfl

theorem TI {frm : Int} {l : List aK} (hl : l.length ≤ 1000000) (hat : ∀ e ∈ l, e.At < 1125899906842624) (hf : frm < 1125899906842624) : lp (fun s : List Int × Int => lR l frm s.1 s.2) ([frm], 0) = some (kX frm l [frm]) := by
  refine pV (l := l) (body := fun s : List Int × Int => lR l frm s.1 s.2) (fun (s : List Int) i => (s, i)) (fun s r => kX frm r s) (fun s r => Inc (frm - 1) s ∧ s.length + r.length ≤ 1000001 ∧ ∀ e ∈ r, e.At < 1125899906842624) [frm] ?_ ?_ ⟨⟨⟨by omega, hf⟩, trivial⟩, by simp; omega, hat⟩
  · rintro i a r s ha ⟨hi, hs, hr⟩
    left
    obtain ⟨d1, d2, d3, d4⟩ := idx ha (by omega)
    simp only [List.length_cons] at hs
    have ha1 := hr a (by simp)
    have hr' : ∀ e ∈ r, e.At < 1125899906842624 := fun e he => hr e (by simp [he])
    by_cases h : frm < a.At
    · refine ⟨mM a.At s, ?_, ⟨DV hi (by omega) ha1, by have := DY (t := a.At) (ps := s); omega, hr'⟩, by simp [kX, h]⟩
      simp only [lR, oG, d1, cond_true, aL d2, d3, d4, h, decide_true]
      rw [ZB hi (by omega)]; rfl
    · refine ⟨s, ?_, ⟨hi, by omega, hr'⟩, by simp [kX, h]⟩
      simp only [lR, oG, d1, cond_true, aL d2, d3, d4, h, decide_false, cond_false]
  · rintro s _
    simp only [lR, gH, cond_false]; rfl

theorem SW {l : List aK} (hl : okL l) (frm : Int) : sM l frm = some (lF l frm) := by
  unfold sM lF
  rw [GY hl, Option.bind_some]
  cases hm : lW l with
  | false => simp
  | true =>
    simp only [Bool.not_true, cond_false, Bool.false_eq_true, if_false, OD hl, Option.bind_some]
    cases ht : pK l with
    | false => simp
    | true =>
      simp only [Bool.not_true, cond_false, Bool.false_eq_true, if_false, vF, Option.bind_some]
      by_cases h1 : frm < 0 ∨ 1125899906842624 < frm
      · have : (!(decide (0 ≤ frm) && decide (frm ≤ 1125899906842624))) = true := by
          simp only [Bool.not_eq_true', Bool.and_eq_false_iff, decide_eq_false_iff_not]; omega
        rw [this, cond_true, if_pos h1]
      · have : (!(decide (0 ≤ frm) && decide (frm ≤ 1125899906842624))) = false := by
          simp only [Bool.not_eq_false', Bool.and_eq_true, decide_eq_true_eq]; omega
        rw [this, cond_false, if_neg h1]
        by_cases h2 : frm = 1125899906842624
        · simp [h2]
        · rw [decide_eq_false h2, cond_false, if_neg h2]
          unfold uP
          rw [TI (by have := (rS hm).1; omega) (fun e he => (vH hm he).2.2.1) (by omega)]
          rfl

theorem BC {l : List aK} {frm : Int} (h : (lF l frm).2 = 0) : lW l = true ∧ pK l = true ∧ 0 ≤ frm ∧ ((frm = 1125899906842624 ∧ (lF l frm).1 = []) ∨ (frm < 1125899906842624 ∧ (lF l frm).1 = kX frm l [frm])) := by
  unfold lF at h ⊢
  cases hm : lW l with
  | false => simp [hm] at h
  | true =>
    cases ht : pK l with
    | false => simp [hm, ht] at h
    | true =>
      by_cases h1 : frm < 0 ∨ 1125899906842624 < frm
      · simp [hm, ht, h1] at h
      · by_cases h2 : frm = 1125899906842624
        · subst h2; simp
        · simp only [hm, ht, h1, h2, Bool.not_true, Bool.false_eq_true, if_false, true_and, false_and, false_or, and_true]
          omega

theorem UW {l : List aK} {frm : Int} (h : (lF l frm).2 ≠ 0) : (lF l frm).1 = [] := by
  unfold lF at h ⊢
  split
  · rfl
  · split
    · rfl
    · split
      · rfl
      · split
        · rfl
        · rename_i h1 h2 h3 h4; simp [h1, h2, h3, h4] at h

theorem EC {l : List aK} {frm : Int} : Inc (frm - 1) (lF l frm).1 ∧ (lF l frm).1.length ≤ 4097 := by
  by_cases h : (lF l frm).2 = 0
  · obtain ⟨hm, _, _, ⟨_, h2⟩ | ⟨h1, h2⟩⟩ := BC h
    · rw [h2]; exact ⟨trivial, by simp⟩
    · rw [h2]
      refine ⟨(zS (frm := frm) (l := l) (c := [frm]) (m := [(frm, 1)]) (fun e he => (vH hm he).2.2.1) ⟨⟨by omega, h1⟩, trivial⟩ (List.Perm.refl _)).2, ?_⟩
      have h4 := (rS hm).1
      have h3 := zG (frm := frm) (l := l) (c := [frm])
      simp only [List.length_cons, List.length_nil] at h3
      omega
  · rw [UW h]; exact ⟨trivial, by simp⟩

end Go.Abs
namespace Go.Abs
open Go
def jF (t : Int) (gs : List (List aB × List aI)) : List bM := gs.filterMap fun g => if 0 < val g.2 t then some ⟨g.1, val g.2 t⟩ else none

def kH (al : Int → List bM) : List Int → List bC
  | [] => []
  | t :: cs => (if al t = [] then [] else [⟨⟨t, cs.headD 1125899906842624⟩, al t⟩]) ++ kH al cs

def SX (x : List bC) : List bC × Int := if 1024 < x.length then ([], 7) else (x, 0)

def vU (l : List aK) (frm : Int) : List bC × Int := if (lF l frm).2 ≠ 0 then ([], (lF l frm).2) else SX (kH (fun t => jF t (groups l)) (lF l frm).1)

theorem FF (t : Int) (g : List aB × List aI) (gs : List (List aB × List aI)) : jF t (g :: gs) = (if 0 < val g.2 t then [⟨g.1, val g.2 t⟩] else []) ++ jF t gs := by
  unfold jF
  rw [List.filterMap_cons]
  by_cases h : 0 < val g.2 t <;> simp [h]

theorem SP (t : Int) (gs : List (List aB × List aI)) : (jF t gs).length ≤ gs.length := List.length_filterMap_le ..

theorem PB {r : List aB} (h : r.length ≤ 4398046510976) : gM r = some r := by
  unfold gM
  rw [aL (by omega)]

theorem LU {gs : List (List aB × List aI)} (hg : ∀ g ∈ gs, kA g.2 = true ∧ g.1.length ≤ 4398046510976) (hn : gs.length ≤ 1000000) (t : Int) : qC t (gs.map fun g => ⟨g.1, g.2⟩) = some (jF t gs) := by
  unfold qC sD
  rw [List.length_map]
  have key := pV (l := gs) (body := fun s : List bM × Int => lJ t (gs.map fun g => ⟨g.1, g.2⟩) ((gs.length : Nat) : Int) s.1 s.2) (fun (s : List bM) i => (s, i)) (fun s r => s ++ jF t r)
    (fun s r => s.length + r.length ≤ 1000000 ∧ ∀ g ∈ r, kA g.2 = true ∧ g.1.length ≤ 4398046510976) [] ?_ ?_ ⟨by simpa using hn, hg⟩
  · rw [key]; rfl
  · rintro i a r s ha ⟨hs, hr⟩
    left
    simp only [List.length_cons] at hs
    have ha' : (gs.map fun g => (⟨g.1, g.2⟩ : bY))[i]? = some ⟨a.1, a.2⟩ := by rw [List.getElem?_map, ha]; rfl
    obtain ⟨d1, d2, d3, d4⟩ := idx ha' (by rw [List.length_map]; omega)
    rw [List.length_map] at d1
    obtain ⟨m1, m2⟩ := hr a (by simp)
    have hr' : ∀ g ∈ r, kA g.2 = true ∧ g.1.length ≤ 4398046510976 := fun g hg => hr g (by simp [hg])
    rw [FF]
    by_cases h : 0 < val a.2 t
    · refine ⟨s ++ [⟨a.1, val a.2 t⟩], ?_, ⟨by simp only [List.length_append, List.length_cons, List.length_nil]; omega, hr'⟩, by simp [h]⟩
      simp only [lJ, mU, d1, cond_true, aL d2, d3, d4, YK, m1, if_true, Option.bind_some, h, decide_true, PB m2]
      rw [aL (by simp only [List.length_cons, List.length_nil]; omega)]
    · refine ⟨s, ?_, ⟨by omega, hr'⟩, by simp [h]⟩
      simp only [lJ, mU, d1, cond_true, aL d2, d3, d4, YK, m1, if_true, Option.bind_some, h, decide_false, cond_false]
  · rintro s _
    simp only [lJ, gH, cond_false]
    simp [jF]

theorem GQ (al : Int → List bM) : ∀ cs : List Int, (kH al cs).length ≤ cs.length
  | [] => by simp [kH]
  | t :: cs => by
    unfold kH
    have := GQ al cs
    split <;> simp <;> omega

theorem OI {cs r : List Int} {t : Int} {i : Nat} (hd : cs.drop i = t :: r) (d : Int) : (cs[i + 1]?).getD d = r.headD d := by
  have := (drop_cons hd).2
  rw [← List.head?_drop, this]
  cases r <;> rfl

theorem MJ {cuts : List Int} {gs : List (List aB × List aI)} (hc : cuts.length ≤ 1000000) (hg : ∀ g ∈ gs, kA g.2 = true ∧ g.1.length ≤ 4398046510976) (hn : gs.length ≤ 1000000) :
    lp (fun s : List bC × Int => lV cuts (gs.map fun g => ⟨g.1, g.2⟩) cuts ((cuts.length : Nat) : Int) s.1 s.2) ([], 0) = some (if 1024 < (kH (fun t => jF t gs) cuts).length then .inr ([], 7) else .inl (kH (fun t => jF t gs) cuts)) := by
  let al := fun t => jF t gs
  have key : ∀ (r : List Int) (k : Nat) (s : List bC), cuts.drop k = r → k ≤ cuts.length → s.length ≤ 1024 →
      lp (fun s : List bC × Int => lV cuts (gs.map fun g => ⟨g.1, g.2⟩) cuts ((cuts.length : Nat) : Int) s.1 s.2) (s, (k : Int)) = some (if 1024 < (s ++ kH al r).length then .inr ([], 7) else .inl (s ++ kH al r)) := by
    intro r
    induction r with
    | nil =>
      intro k s hd hk hs
      have : k = cuts.length := by
        have := congrArg List.length hd
        simp only [List.length_drop, List.length_nil] at this; omega
      subst this
      refine cR ?_
      simp only [lV, gH, cond_false, kH, List.append_nil]
      rw [if_neg (by omega)]
    | cons t r ih =>
      intro k s hd hk hs
      obtain ⟨h1, h2⟩ := drop_cons hd
      obtain ⟨d1, d2, d3, d4⟩ := idx h1 (by omega)
      have hlt : k < cuts.length := (List.getElem?_eq_some_iff.1 h1).1
      have hb : lV cuts (gs.map fun g => ⟨g.1, g.2⟩) cuts ((cuts.length : Nat) : Int) s (k : Int) =
          some (if al t = [] then .inl (s, ((k + 1 : Nat) : Int)) else if s.length = 1024 then .inr (.inr ([], 7)) else .inl (s ++ [⟨⟨t, r.headD 1125899906842624⟩, al t⟩], ((k + 1 : Nat) : Int))) := by
        simp only [lV, qR, qT, d1, cond_true, aL d2, d3, d4, LU hg hn, Option.bind_some]
        by_cases ha : jF t gs = []
        · simp [al, ha]
        · have ha1 : decide (((jF t gs).length : Int) = 0) = false := by
            rw [decide_eq_false_iff_not]; intro e
            exact ha (List.length_eq_zero_iff.1 (by omega))
          rw [ha1, cond_false, if_neg (show ¬ al t = [] from ha)]
          by_cases hs1 : s.length = 1024
          · rw [if_pos hs1, decide_eq_true (by omega), cond_true]
          · rw [if_neg hs1, decide_eq_false (by omega), cond_false]
            have hh := OI hd 1125899906842624
            by_cases hk1 : k + 1 < cuts.length
            · rw [decide_eq_true (by omega), cond_true, aL (by omega), aL (by simp only [List.length_cons, List.length_nil]; omega)]
              have : List.getD cuts (Int.toNat ((k + 1 : Nat) : Int)) default = r.headD 1125899906842624 := by
                rw [← hh, Int.toNat_natCast, List.getD_eq_getElem?_getD, List.getElem?_eq_getElem hk1]; rfl
              rw [this]
            · rw [decide_eq_false (by omega), cond_false, aL (by simp only [List.length_cons, List.length_nil]; omega)]
              have : r.headD 1125899906842624 = 1125899906842624 := by
                rw [← hh, List.getElem?_eq_none (by omega)]; rfl
              rw [this]
      by_cases ha : al t = []
      · rw [if_pos ha] at hb
        rw [eZ hb, ih (k + 1) s h2 (by omega) hs]
        simp [kH, ha]
      · rw [if_neg ha] at hb
        by_cases hs1 : s.length = 1024
        · rw [if_pos hs1] at hb
          rw [cR hb, if_pos]
          simp [kH, ha]; omega
        · rw [if_neg hs1] at hb
          rw [eZ hb, ih (k + 1) _ h2 (by omega) (by simp only [List.length_append, List.length_cons, List.length_nil]; omega)]
          simp [kH, ha]
  exact key cuts 0 [] rfl (by omega) (by simp)

theorem HI (c0 : List Int) (c : List aK) : ∀ (gs : List (List aB × List aI)) (out : List bY), out.length + gs.length ≤ 1000000 →
    itG (fun st t29 t30 => rnd (fun (s : List bY) => lU c0 c s t29 t30) st) gs (.inl out : List bY ⊕ List bY) = some (.inl (out ++ gs.map fun g => ⟨g.1, g.2⟩))
  | [], out, _ => by simp [itG]
  | g :: gs, out, h => by
    simp only [List.length_cons] at h
    have e1 : lU c0 c out g.1 g.2 = some (.inl (out ++ [⟨g.1, g.2⟩])) := by
      unfold lU
      rw [aL (by simp only [List.length_cons, List.length_nil]; omega)]
    have e2 : rnd (fun (s : List bY) => lU c0 c s g.1 g.2) (.inl out : List bY ⊕ List bY) = some (.inl (out ++ [⟨g.1, g.2⟩]), true) := by
      simp only [rnd, e1, Option.bind_some]; rfl
    unfold itG
    rw [e2]
    simp only [Option.bind_some, if_true]
    rw [HI c0 c gs _ (by simp only [List.length_append, List.length_cons, List.length_nil]; omega)]
    simp

theorem HZ {l : List aK} (hl : okL l) (hm : lW l = true) : (∀ g ∈ groups l, kA g.2 = true ∧ g.1.length ≤ 4398046510976) ∧ (groups l).length ≤ 4096 := by
  obtain ⟨h1, h2, _⟩ := rS hm
  exact ⟨fun g hg => ⟨(h2 g hg).2, VB hl hg⟩, by have := IC l; omega⟩

theorem CM {l : List aK} (hl : okL l) (frm : Int) : pP l frm = some (vU l frm) := by
  unfold pP vU
  rw [FA hl, Option.bind_some]
  by_cases h : (lF l frm).2 = 0
  · rw [if_neg (by simpa using h), decide_eq_true h, Bool.not_true, cond_false]
    have hm := (BC h).1
    obtain ⟨g1, g2⟩ := HZ hl hm
    have hc := (EC (l := l) (frm := frm)).2
    unfold uJ
    rw [Option.bind_some]
    unfold uN
    rw [TH hl (s' := .inl ([] ++ (groups l).map fun g => (⟨g.1, g.2⟩ : bY))) (by rw [hm, if_pos rfl]; exact HI _ _ _ _ (by simp; omega)), Option.bind_some, Sum.elim_inl, List.nil_append]
    unfold qP
    rw [MJ (by omega) g1 (by omega)]
    unfold SX
    split <;> rfl
  · rw [if_pos h, decide_eq_false h]; rfl

end Go.Abs
namespace Go.Abs
open Go
theorem PZ {l : List aK} (hl : okL l) (hm : lW l = true) (t : Int) : rE l t = some (jF t (groups l)) := by
  unfold rE
  have hn := (rS hm).1
  rw [BL hl (fun e he => (vH hm he).1) (by omega), Option.bind_some]
  have hr : (rowsOf l).length ≤ 4096 := by
    have h1 : (RN l).length = (rowsOf l).length := by simp [RN]
    have h2 := IC l
    rw [EY hm] at h1
    omega
  unfold tE
  have key := pV (l := rowsOf l) (body := fun s : List bM × Int => mD l t (rowsOf l) s.1 s.2) (fun (s : List bM) i => (s, i)) (fun s r => s ++ jF t (r.map fun r => (r, eH l r)))
    (fun s r => s.length + r.length ≤ 1000000) [] ?_ ?_ (by simp only [List.length_nil]; omega)
  · rw [key, Option.bind_some]
    rw [← EY hm]; rfl
  · rintro i a r s ha hs
    left
    simp only [List.length_cons] at hs
    obtain ⟨d1, d2, d3, d4⟩ := idx ha (by omega)
    simp only [List.map_cons]
    rw [FF]
    by_cases h : 0 < val (eH l a) t
    · refine ⟨s ++ [⟨a, val (eH l a) t⟩], ?_, by simp only [List.length_append, List.length_cons, List.length_nil]; omega, by simp [h]⟩
      simp only [mD, nI, d1, cond_true, aL d2, d3, d4, xG hl (show l.length ≤ 1099511627776 by omega), vJ (tA hm a), Option.bind_some, h, decide_true]
      rw [aL (by simp only [List.length_cons, List.length_nil]; omega)]
    · refine ⟨s, ?_, by omega, by simp [h]⟩
      simp only [mD, nI, d1, cond_true, aL d2, d3, d4, xG hl (show l.length ≤ 1099511627776 by omega), vJ (tA hm a), Option.bind_some, h, decide_false, cond_false]
  · rintro s _
    simp only [mD, gH, cond_false]
    simp [jF]

theorem PC {l : List aK} (hl : okL l) (hm : lW l = true) {cuts : List Int} (hc : cuts.length ≤ 1000000) :
    lp (fun s : List bC × Int => kZ l cuts s.1 s.2) ([], 0) = some (kH (fun t => jF t (groups l)) cuts) := by
  let al := fun t => jF t (groups l)
  have key : ∀ (r : List Int) (k : Nat) (s : List bC), cuts.drop k = r → k ≤ cuts.length → s.length ≤ k →
      lp (fun s : List bC × Int => kZ l cuts s.1 s.2) (s, (k : Int)) = some (s ++ kH al r) := by
    intro r
    induction r with
    | nil =>
      intro k s hd hk hs
      have : k = cuts.length := by
        have := congrArg List.length hd
        simp only [List.length_drop, List.length_nil] at this; omega
      subst this
      refine cR ?_
      simp only [kZ, gH, cond_false, kH, List.append_nil]
    | cons t r ih =>
      intro k s hd hk hs
      obtain ⟨h1, h2⟩ := drop_cons hd
      obtain ⟨d1, d2, d3, d4⟩ := idx h1 (by omega)
      have hlt : k < cuts.length := (List.getElem?_eq_some_iff.1 h1).1
      have hh := OI hd 1125899906842624
      have hj : ∀ sp : dK, nL l cuts s (k : Int) ⟨sp, jF t (groups l)⟩ = some (.inl (s ++ (if al t = [] then [] else [⟨sp, al t⟩]), ((k + 1 : Nat) : Int))) := by
        intro sp
        simp only [nL, pJ, d4]
        by_cases ha : jF t (groups l) = []
        · simp [al, ha]
        · have hp : 0 < (jF t (groups l)).length := List.length_pos_iff.2 ha
          rw [decide_eq_true (by omega), cond_true, aL (by simp only [List.length_cons, List.length_nil]; omega), if_neg (show ¬ al t = [] from ha)]
      have hb : kZ l cuts s (k : Int) = some (.inl (s ++ (if al t = [] then [] else [⟨⟨t, r.headD 1125899906842624⟩, al t⟩]), ((k + 1 : Nat) : Int))) := by
        simp only [kZ, d1, cond_true, aL d2, d3, d4, PZ hl hm, Option.bind_some]
        by_cases hk1 : k + 1 < cuts.length
        · rw [decide_eq_true (by omega), cond_true, aL (by omega)]
          have : List.getD cuts (Int.toNat ((k + 1 : Nat) : Int)) default = r.headD 1125899906842624 := by
            rw [← hh, Int.toNat_natCast, List.getD_eq_getElem?_getD, List.getElem?_eq_getElem hk1]; rfl
          rw [this, hj]
        · rw [decide_eq_false (by omega), cond_false]
          have : r.headD 1125899906842624 = 1125899906842624 := by
            rw [← hh, List.getElem?_eq_none (by omega)]; rfl
          rw [hj, this]
      rw [eZ hb, ih (k + 1) _ h2 (by omega) (by simp only [List.length_append]; split <;> simp <;> omega)]
      simp [kH]
  exact key cuts 0 [] rfl (by omega) (by simp)

theorem PD {l : List aK} (hl : okL l) (frm : Int) : qO l frm = some (vU l frm) := by
  unfold qO vU
  rw [SW hl, Option.bind_some]
  by_cases h : (lF l frm).2 = 0
  · rw [if_neg (by simpa using h), decide_eq_true h, Bool.not_true, cond_false]
    unfold tP
    rw [PC hl (BC h).1 (by have := (EC (l := l) (frm := frm)).2; omega), Option.bind_some]
    unfold qD SX
    by_cases h1 : 1024 < (kH (fun t => jF t (groups l)) (lF l frm).1).length
    · rw [if_pos h1, decide_eq_true (by omega)]; rfl
    · rw [if_neg h1, decide_eq_false (by omega)]; rfl
  · rw [if_pos h, decide_eq_false h]; rfl

def okC (x : List bM) : Prop := x.length ≤ 1000000 ∧ ∀ c ∈ x, c.Row.length ≤ 17592186044416

theorem KX {x : List bM} (h : okC x) : mQ x x = some true := by
  unfold mQ nX
  rw [GW rfl, cond_false]
  have h1 := h.1
  rw [AR (l := x) (body := fun s => kN x x s) (fun i => i) (fun _ => false) (.inr false) (.inl ()) ?_ ?_]
  · simp [lX]
  · intro i a ha
    obtain ⟨d1, d2, d3, d4⟩ := idx ha (by omega)
    simp only [kN, d1, cond_true, aL d2, d3, d4, decide_true, Bool.not_true, Bool.not_false, dA, xS a.Row a.Row (h.2 a (List.mem_of_getElem? ha)), Option.bind_some, Bool.false_or, cond_false]
    rw [aL (fun _ => d2), aL (fun _ => d2)]
    rfl
  · simp only [kN, gH, cond_false]

theorem ON {x : List bC} (h1 : x.length ≤ 1000000) (h : ∀ p ∈ x, okC p.Rows) : sL x x = some true := by
  unfold sL uV
  rw [GW rfl, cond_false]
  rw [AR (l := x) (body := fun s => oD x x s) (fun i => i) (fun _ => false) (.inr false) (.inl ()) ?_ ?_]
  · simp [rD]
  · intro i a ha
    obtain ⟨d1, d2, d3, d4⟩ := idx ha (by omega)
    simp only [oD, d1, cond_true, aL d2, d3, d4, decide_true, Bool.and_self, Bool.not_true, Bool.not_false, dA, KX (h a (List.mem_of_getElem? ha)), Option.bind_some, Bool.false_or, cond_false]
    rw [aL (fun _ => d2), aL (fun _ => d2)]
    rfl
  · simp only [oD, gH, cond_false]

theorem TG {gs : List (List aB × List aI)} (hg : ∀ g ∈ gs, kA g.2 = true ∧ g.1.length ≤ 4398046510976) (hn : gs.length ≤ 1000000) (t : Int) : okC (jF t gs) := by
  refine ⟨by have := SP t gs; omega, fun c hc => ?_⟩
  obtain ⟨g, h1, h2⟩ := List.mem_filterMap.1 hc
  split at h2
  · simp only [Option.some.injEq] at h2; subst h2
    have := (hg g h1).2; simp only; omega
  · cases h2

theorem IA {al : Int → List bM} {p : bC} : ∀ {cs : List Int}, p ∈ kH al cs → ∃ t ∈ cs, p.Rows = al t ∧ p.Span.From = t
  | [], h => by simp [kH] at h
  | t :: cs, h => by
    unfold kH at h
    rcases List.mem_append.1 h with h | h
    · split at h
      · simp at h
      · simp at h; subst h; exact ⟨t, by simp, rfl, rfl⟩
    · obtain ⟨t', h1, h2⟩ := IA h
      exact ⟨t', by simp [h1], h2⟩

theorem TB {l : List aK} (hl : okL l) (frm : Int) : (vU l frm).1.length ≤ 4097 ∧ ∀ p ∈ (vU l frm).1, okC p.Rows := by
  unfold vU
  by_cases h : (lF l frm).2 = 0
  · rw [if_neg (by simpa using h)]
    obtain ⟨g1, g2⟩ := HZ hl (BC h).1
    unfold SX
    split
    · simp
    · refine ⟨by show (kH (fun t => jF t (groups l)) (lF l frm).1).length ≤ 4097; have := GQ (fun t => jF t (groups l)) (lF l frm).1; have := (EC (l := l) (frm := frm)).2; omega, fun p hp => ?_⟩
      obtain ⟨t, _, h2, _⟩ := IA hp
      rw [h2]; exact TG g1 (by omega) t
  · rw [if_pos h]; simp

def EF : aB := ⟨1, 1, ByteArray.empty⟩

def LG : aB := ⟨1, 2, ByteArray.empty⟩

def l27 : List aK := [⟨[EF], 2, 1⟩, ⟨[EF], 9, -1⟩, ⟨[LG], 5, 1⟩, ⟨[LG], 7, -1⟩]

theorem UC : okL l27 := ⟨by decide, by decide⟩

theorem aAS : lF l27 0 = ([0, 2, 5, 7, 9], 0) := by decide +kernel

theorem ZS : vU l27 0 = ([⟨⟨2, 5⟩, [⟨[EF], 1⟩]⟩, ⟨⟨5, 7⟩, [⟨[EF], 1⟩, ⟨[LG], 1⟩]⟩, ⟨⟨7, 9⟩, [⟨[EF], 1⟩]⟩], 0) := by decide +kernel

theorem KG : pQ = some true := by
  unfold pQ
  have h1 := FA UC 0
  have h2 := CM UC 0
  rw [aAS] at h1
  rw [ZS] at h2
  simp only [l27, EF, LG] at h1 h2
  rw [h1, Option.bind_some, h2, Option.bind_some, aL (fun _ => by decide), aL (fun _ => by decide), aL (fun _ => by decide)]
  rfl

theorem XZ (l : List aK) : xC l = some (decide (((l.length : Nat) : Int) ≤ 60)) := rfl

end Go.Abs
namespace Go.Abs
open Go
theorem aAv {l : List aK} (m : ∀ a ∈ l, tZ a) (y : List.length l * 40 ≤ 140737488351232) : okL l :=
  ⟨by omega, fun e he => by have := (m e he).1.2; omega⟩

end Go.Abs
namespace Go.Abs
open Go
theorem IP (l0 : (List aK)) (m0 : ∀ a ∈ l0, tZ a) (y0 : List.length l0 * 40 ≤ 140737488351232) (a1 : Int) (w1 : xT a1) : pE l0 a1 = some true := by
  have k0 := aAv m0 y0
  unfold pE
  rw [XZ, Option.bind_some]
  cases decide (((l0.length : Nat) : Int) ≤ 60) with
  | false => simp only [Bool.not_false, cond_true, KG, Option.bind_some]
  | true =>
    obtain ⟨h1, h2⟩ := TB k0 a1
    simp only [Bool.not_true, cond_false, CM k0, PD k0, KG, Option.bind_some, dA, decide_true, Bool.and_self, cond_true, ON (show (vU l0 a1).1.length ≤ 1000000 by omega) h2]

end Go.Abs
