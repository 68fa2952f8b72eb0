/- What the law CountsStarts stands on: the framework, the given functions as plain functions, their walks, and the plain laws; part 5. -/
import Derived.Test.YtfhaegpflbcmgaaCountsStartsZ4
set_option linter.unusedSimpArgs false
set_option linter.unusedVariables false
namespace Go.Abs
open Go
theorem LW {a b : List aB} {k : Nat} (hk : k = a.length ∨ k = b.length) (h1 : k ≤ a.length) (h2 : k ≤ b.length) : gX (a.drop k) (b.drop k) = mY a.length b.length := by
  rcases hk with rfl | rfl
  · rw [List.drop_length]
    by_cases h : a.length = b.length
    · rw [h, List.drop_length, yP]; rfl
    · rw [List.drop_eq_getElem_cons (by omega)]
      show (-1 : Int) = _
      unfold mY; rw [if_pos (by omega)]
  · rw [List.drop_length]
    by_cases h : a.length = b.length
    · rw [← h, List.drop_length, yP]; rfl
    · rw [List.drop_eq_getElem_cons (by omega)]
      show (1 : Int) = _
      unfold mY; rw [if_neg (by omega), if_pos (by omega)]

theorem PN {a b : List aB} (hl : a.length ≤ 8) (hlb : b.length ≤ 8) (n : Nat) (hn : n = min a.length b.length) : ∀ (m k : Nat), n - k = m → k ≤ n →
    ∃ x, lp (fun s : Int × Int => cC (fun st y0 => (jO y0 st b).bind fun o => some (o.2, o.1)) (a.take n) (n : Nat) s.1 s.2) ((k : Int) - 1, (k : Int)) = some x ∧
      ((∃ sg, x = .inl sg ∧ gX (a.drop k) (b.drop k) = mY a.length b.length) ∨
        (∃ i : Nat, x = .inr ((i : Int), (i : Int)) ∧ i < a.length ∧ i < b.length ∧ gX (a.drop k) (b.drop k) = uM (a.getD i default) (b.getD i default)))
  | 0, k, hm, hk => by
    have : k = n := by omega
    subst this
    refine ⟨.inl ((k : Int) - 1), cO ?_, .inl ⟨_, rfl, LW (by omega) (by omega) (by omega)⟩⟩
    show cC _ _ _ _ _ = _
    simp only [cC, iZ, cond_false]
  | m + 1, k, hm, hk => by
    have h1 : k < a.length := by omega
    have h2 : k < b.length := by omega
    have ht : (a.take n)[k]? = some a[k] := by
      rw [List.getElem?_take_of_lt (by omega)]; exact List.getElem?_eq_getElem h1
    obtain ⟨d1, d2, d3, d4⟩ := idx ht (by simp; omega)
    have hlt : (a.take n).length = n := by simp; omega
    rw [hlt] at d1 d2
    obtain ⟨_, e2, e3, _⟩ := idx (List.getElem?_eq_getElem h2) (by omega)
    have hw : IntKind.i64.wrap ((k : Int) - 1 + 1) = (k : Int) := by rw [dG (by omega) (by omega)]; omega
    have hb : (fun s : Int × Int => cC (fun st y0 => (jO y0 st b).bind fun o => some (o.2, o.1)) (a.take n) (n : Nat) s.1 s.2) ((k : Int) - 1, (k : Int)) =
        some (if a[k] = b[k] then .inl ((k : Int), ((k + 1 : Nat) : Int)) else .inr (.inr ((k : Int), (k : Int)))) := by
      show cC _ _ _ _ _ = _
      simp only [cC, d1, cond_true, hlt, aK d2, d3, d4, jO, hw, aK e2, e3, veq, Option.bind_some]
      by_cases h : a[k] = b[k] <;> simp [h]
    have ea : a.drop k = a[k] :: a.drop (k + 1) := List.drop_eq_getElem_cons h1
    have eb : b.drop k = b[k] :: b.drop (k + 1) := List.drop_eq_getElem_cons h2
    by_cases h : a[k] = b[k]
    · rw [if_pos h] at hb
      obtain ⟨x, e, hx⟩ := PN hl hlb n hn m (k + 1) (by omega) (by omega)
      have hc : gX (a.drop k) (b.drop k) = gX (a.drop (k + 1)) (b.drop (k + 1)) := by
        rw [ea, eb]; unfold gX; rw [hM, if_pos h]
      refine ⟨x, ?_, by rw [hc]; exact hx⟩
      rw [fI hb]
      rw [show ((k + 1 : Nat) : Int) - 1 = (k : Int) by omega] at e
      exact e
    · rw [if_neg h] at hb
      refine ⟨_, cO hb, .inr ⟨k, rfl, h1, h2, ?_⟩⟩
      rw [ea, eb]; unfold gX; rw [hM, if_neg h]
      simp [List.getD_eq_getElem?_getD, h1, h2]

theorem TC (a b : List aB) : rB a b = some (if jP a && jP b then gX a b else 0) := by
  unfold rB
  rw [IV]
  simp only [Option.bind_some]
  cases ha : jP a
  · simp [cX]
  · simp only [Bool.not_true, Bool.not_false, cX, cond_true, IV, Option.bind_some, Bool.false_or]
    cases hb : jP b
    · simp
    · obtain ⟨la, ma⟩ := vW ha
      obtain ⟨lb, mb⟩ := vW hb
      have hif : (if ((List.length b : Nat) : Int) < ((List.length a : Nat) : Int) then ((List.length b : Nat) : Int) else ((List.length a : Nat) : Int)) = ((min a.length b.length : Nat) : Int) := by split <;> omega
      have hlt : (a.take (min a.length b.length)).length = min a.length b.length := by rw [List.length_take]; omega
      simp only [Bool.not_true, cond_false, hif, Int.toNat_natCast, sE, Option.bind_some, gS, gO, hlt, Bool.and_self, if_true]
      rw [aK ⟨by omega, by omega⟩]
      obtain ⟨x, e, hx⟩ := PN (a := a) (b := b) la lb _ rfl _ 0 rfl (Nat.zero_le _)
      have e' : lp (fun s : Int × Int => cC (fun st y0 => (jO y0 st b).bind fun o => some (o.2, o.1)) (a.take (min a.length b.length)) (min a.length b.length : Nat) s.1 s.2) ((-1 : Int), (0 : Int)) = some x := e
      rw [e']
      simp only [List.drop_zero] at hx
      rcases hx with ⟨sg, rfl, h⟩ | ⟨i, rfl, h1, h2, h⟩
      · simp [eT, SS, h]
      · have hi : decide ((i : Int) < 0) = false := by simp
        simp only [Option.bind_some, Sum.elim_inr, hi, cond_false, Int.toNat_natCast]
        rw [aK ⟨by omega, by omega⟩, aK ⟨by omega, by omega⟩]
        have g1 : a.getD i default ∈ a := by simp [List.getD_eq_getElem?_getD, h1]
        have g2 : b.getD i default ∈ b := by simp [List.getD_eq_getElem?_getD, h2]
        rw [SX (ma _ g1) (mb _ g2), h]
        simp only [Option.bind_some]

theorem XK {s : ByteArray} {i : Nat} (h : i < s.data.toList.length) : bt s (i : Int) = ((s.data.toList[i]).toNat : Int) := by
  have h' : i < s.data.size := by simpa using h
  unfold bt
  simp only [Int.toNat_natCast, Array.getElem_toList]
  rw [Array.getD_eq_getD_getElem?, Array.getElem?_eq_getElem h']
  rfl

theorem MG {a b : aB} (ha : a.Text.size ≤ 64) (hb : b.Text.size ≤ 64) : ∀ (m k : Nat), min a.Text.size b.Text.size - k = m → k ≤ min a.Text.size b.Text.size →
    ∃ x, lp (fun s => iI a b s) (k : Int) = some x ∧
      ((x = .inl () ∧ hM wX (a.Text.data.toList.drop k) (b.Text.data.toList.drop k) = mY a.Text.size b.Text.size) ∨ (∃ v, x = .inr v ∧ hM wX (a.Text.data.toList.drop k) (b.Text.data.toList.drop k) = v))
  | 0, k, hm, hk => by
    have hsa : a.Text.data.toList.length = a.Text.size := by rw [Array.length_toList]; rfl
    have hsb : b.Text.data.toList.length = b.Text.size := by rw [Array.length_toList]; rfl
    refine ⟨.inl (), cO ?_, .inl ⟨rfl, ?_⟩⟩
    · show iI a b _ = _
      have : ((decide ((k : Int) < ((ByteArray.size a.Text : Nat) : Int))) && (decide ((k : Int) < ((ByteArray.size b.Text : Nat) : Int)))) = false := by
        rw [Bool.and_eq_false_iff]
        simp only [decide_eq_false_iff_not]
        omega
      simp only [iI, this, cond_false]
    · by_cases h1 : a.Text.size ≤ k
      · rw [List.drop_eq_nil_of_le (by omega)]
        by_cases h2 : b.Text.size ≤ k
        · rw [List.drop_eq_nil_of_le (by omega)]
          have : a.Text.size = b.Text.size := by omega
          rw [this, yP]; rfl
        · rw [List.drop_eq_getElem_cons (by omega)]
          show (-1 : Int) = _
          unfold mY; rw [if_pos (by omega)]
      · have h2 : b.Text.size ≤ k := by omega
        rw [@List.drop_eq_nil_of_le _ b.Text.data.toList k (by omega), List.drop_eq_getElem_cons (by omega)]
        show (1 : Int) = _
        unfold mY; rw [if_neg (by omega), if_pos (by omega)]
  | m + 1, k, hm, hk => by
    have hsa : a.Text.data.toList.length = a.Text.size := by rw [Array.length_toList]; rfl
    have hsb : b.Text.data.toList.length = b.Text.size := by rw [Array.length_toList]; rfl
    have h1 : k < a.Text.data.toList.length := by omega
    have h2 : k < b.Text.data.toList.length := by omega
    have c1 : decide ((k : Int) < ((ByteArray.size a.Text : Nat) : Int)) = true := by simp; omega
    have c2 : decide ((k : Int) < ((ByteArray.size b.Text : Nat) : Int)) = true := by simp; omega
    have p1 : 0 ≤ (k : Int) ∧ (k : Int) < ((ByteArray.size a.Text : Nat) : Int) := ⟨by omega, by omega⟩
    have p2 : 0 ≤ (k : Int) ∧ (k : Int) < ((ByteArray.size b.Text : Nat) : Int) := ⟨by omega, by omega⟩
    have hw : IntKind.i64.wrap ((k : Int) + 1) = ((k + 1 : Nat) : Int) := by rw [dG (by omega) (by omega)]; omega
    have ea := List.drop_eq_getElem_cons h1
    have eb := List.drop_eq_getElem_cons h2
    have hb' : iI a b (k : Int) = some (if a.Text.data.toList[k] = b.Text.data.toList[k] then .inl ((k + 1 : Nat) : Int) else .inr (.inr (wX a.Text.data.toList[k] b.Text.data.toList[k]))) := by
      simp only [iI, c1, c2, Bool.and_self, cond_true, aK p1, aK p2, XK h1, XK h2, hw]
      generalize a.Text.data.toList[k] = x
      generalize b.Text.data.toList[k] = y
      by_cases e : x = y
      · subst e; simp
      · have e' : ¬ ((x.toNat : Int) = (y.toNat : Int)) := fun h => e (UInt8.toNat_inj.1 (by omega))
        simp only [e', decide_false, Bool.not_false, cond_true, if_neg e]
        unfold wX
        simp only [UInt8.lt_iff_toNat_lt]
        by_cases l : x.toNat < y.toNat
        · have : ((x.toNat : Int) < (y.toNat : Int)) := by omega
          simp [l]
        · have l2 : y.toNat < x.toNat := by
            rcases Nat.lt_or_ge y.toNat x.toNat with h | h
            · exact h
            · exact absurd (UInt8.toNat_inj.1 (by omega)) e
          simp [l, l2]
    by_cases e : a.Text.data.toList[k] = b.Text.data.toList[k]
    · rw [if_pos e] at hb'
      obtain ⟨x, hx1, hx2⟩ := MG ha hb m (k + 1) (by omega) (by omega)
      refine ⟨x, by rw [fI (show (fun s => iI a b s) (k : Int) = _ from hb')]; exact hx1, ?_⟩
      rw [ea, eb, hM, if_pos e]; exact hx2
    · rw [if_neg e] at hb'
      refine ⟨_, cO (show (fun s => iI a b s) (k : Int) = _ from hb'), .inr ⟨_, rfl, ?_⟩⟩
      rw [ea, eb, hM, if_neg e]

theorem JI {v : aB} (h : qK v = true) : v.Text.size ≤ 64 := by
  rcases DW h with h | ⟨_, h⟩
  · rw [(xR h).2]; decide
  · exact (vV h).2.2

theorem JG {v : aB} (h : qK v = true) : v.Kind = 1 ∨ v.Kind = 2 := by
  rcases DW h with h | ⟨_, h⟩
  · exact .inl (xR h).1
  · exact .inr (vV h).1

theorem LY {a b : aB} (ha : qK a = true) (hb : qK b = true) : oY a b = some (uM a b) := by
  unfold oY
  simp only [HI, ha, hb, Option.bind_some, Bool.not_true, Bool.not_false, cX, cond_true, Bool.or_self, cond_false]
  unfold uM
  by_cases hk : a.Kind = b.Kind
  · rw [if_pos hk]
    by_cases hn : a.Num = b.Num
    · rw [if_pos hn]
      simp only [hk, hn, decide_true, Bool.not_true, cond_false, qR]
      obtain ⟨x, e, hx⟩ := MG (JI ha) (JI hb) _ 0 rfl (Nat.zero_le _)
      simp only [Int.natCast_zero, List.drop_zero] at e hx
      rw [e]
      have ht : HZ a.Text b.Text = hM wX a.Text.data.toList b.Text.data.toList := rfl
      rcases hx with ⟨rfl, h⟩ | ⟨v, rfl, h⟩
      · rw [ht, h]
        simp only [Option.bind_some, Sum.elim_inl, nY]
        unfold mY
        by_cases h1 : a.Text.size = b.Text.size
        · have h1' : ((a.Text.size : Nat) : Int) = ((b.Text.size : Nat) : Int) := by omega
          simp [h1']
        · have h1' : ¬ ((a.Text.size : Nat) : Int) = ((b.Text.size : Nat) : Int) := by omega
          by_cases h2 : ((a.Text.size : Nat) : Int) < ((b.Text.size : Nat) : Int)
          · simp only [h1', h2, decide_false, decide_true, Bool.not_false, cond_true, if_true]
          · have h3 : ((b.Text.size : Nat) : Int) < ((a.Text.size : Nat) : Int) := by omega
            simp only [h1', h2, h3, decide_false, Bool.not_false, cond_true, cond_false, if_true, if_false]
      · rw [ht, h]; rfl
    · rw [if_neg hn]
      simp only [hk, hn, decide_true, decide_false, Bool.not_true, Bool.not_false, cond_false, cond_true]
      unfold mY
      by_cases h1 : a.Num < b.Num
      · simp [h1]
      · have h2 : b.Num < a.Num := by omega
        simp [h1, h2]
  · rw [if_neg hk]
    simp only [hk, decide_false, Bool.not_false, cond_true]
    rcases JG ha with h1 | h1 <;> rcases JG hb with h2 | h2
    · exact absurd (h1.trans h2.symm) hk
    · rw [h1, h2]; rfl
    · rw [h1, h2]; rfl
    · exact absurd (h1.trans h2.symm) hk

theorem JL {a b : List aB} (ha : jP a = true) (hb : jP b = true) : ∀ (m k : Nat), min a.length b.length - k = m → k ≤ min a.length b.length →
    ∃ x, lp (fun s => iE a b s) (k : Int) = some x ∧ ((x = .inl () ∧ gX (a.drop k) (b.drop k) = mY a.length b.length) ∨ (∃ v, x = .inr v ∧ gX (a.drop k) (b.drop k) = v))
  | 0, k, hm, hk => by
    refine ⟨.inl (), cO ?_, .inl ⟨rfl, LW (by omega) (by omega) (by omega)⟩⟩
    show iE a b _ = _
    have : ((decide ((k : Int) < ((a.length : Nat) : Int))) && (decide ((k : Int) < ((b.length : Nat) : Int)))) = false := by
      rw [Bool.and_eq_false_iff]
      simp only [decide_eq_false_iff_not]
      omega
    simp only [iE, this, cond_false]
  | m + 1, k, hm, hk => by
    obtain ⟨la, ma⟩ := vW ha
    obtain ⟨lb, mb⟩ := vW hb
    have h1 : k < a.length := by omega
    have h2 : k < b.length := by omega
    obtain ⟨d1, d2, d3, d4⟩ := idx (List.getElem?_eq_getElem h1) (by omega)
    obtain ⟨e1, e2, e3, _⟩ := idx (List.getElem?_eq_getElem h2) (by omega)
    have ea := List.drop_eq_getElem_cons h1
    have eb := List.drop_eq_getElem_cons h2
    have hb' : iE a b (k : Int) = some (if a[k] = b[k] then .inl ((k + 1 : Nat) : Int) else .inr (.inr (uM a[k] b[k]))) := by
      simp only [iE, d1, e1, Bool.and_self, cond_true, aK d2, aK e2, d3, e3, d4, LY (ma _ (List.getElem_mem h1)) (mb _ (List.getElem_mem h2)), Option.bind_some]
      by_cases h : a[k] = b[k]
      · have := (AN.eq a[k] b[k]).2 h
        simp [h, (AN.eq b[k] b[k]).2 rfl]
      · have : ¬ uM a[k] b[k] = 0 := fun h' => h ((AN.eq _ _).1 h')
        simp [h, this]
    by_cases h : a[k] = b[k]
    · rw [if_pos h] at hb'
      obtain ⟨x, hx1, hx2⟩ := JL ha hb m (k + 1) (by omega) (by omega)
      refine ⟨x, by rw [fI (show (fun s => iE a b s) (k : Int) = _ from hb')]; exact hx1, ?_⟩
      have hc : gX (a.drop k) (b.drop k) = gX (a.drop (k + 1)) (b.drop (k + 1)) := by
        rw [ea, eb]; unfold gX; rw [hM, if_pos h]
      rw [hc]; exact hx2
    · rw [if_neg h] at hb'
      refine ⟨_, cO (show (fun s => iE a b s) (k : Int) = _ from hb'), .inr ⟨_, rfl, ?_⟩⟩
      rw [ea, eb]; unfold gX; rw [hM, if_neg h]

theorem BZ (a b : List aB) (hla : a.length ≤ 17592186044416) (hlb : b.length ≤ 17592186044416) : nA a b = some (if jP a && jP b then gX a b else 0) := by
  unfold nA
  rw [AW a (by omega)]
  simp only [Option.bind_some]
  cases ha : jP a
  · simp [cX]
  · simp only [Bool.not_true, Bool.not_false, cX, cond_true, AW b (by omega), Option.bind_some, Bool.false_or]
    cases hb : jP b
    · simp
    · simp only [Bool.not_true, cond_false, qL, Bool.and_self, if_true]
      obtain ⟨x, e, hx⟩ := JL ha hb _ 0 rfl (Nat.zero_le _)
      simp only [Int.natCast_zero, List.drop_zero] at e hx
      rw [e]
      rcases hx with ⟨rfl, h⟩ | ⟨v, rfl, h⟩
      · rw [h]
        simp only [Option.bind_some, Sum.elim_inl, oD]
        unfold mY
        by_cases h1 : a.length < b.length
        · simp [h1]
        · by_cases h2 : b.length < a.length <;> simp [h1, h2]
      · rw [h]; rfl

end Go.Abs
namespace Go.Abs
open Go
def jE (e : aI) : aM := ⟨e.At, e.Net⟩

def gA (r : List aB) (f : List aM) : List aI → List (List aB × List aM)
  | [] => [(r, f)]
  | e :: l => if e.Row = r then gA r (f ++ [jE e]) l else (r, f) :: gA e.Row [jE e] l

def groups : List aI → List (List aB × List aM)
  | [] => []
  | e :: l => gA e.Row [jE e] l

def itG {σ : Type} (y : σ → List aB → List aM → Option (σ × Bool)) : List (List aB × List aM) → σ → Option σ
  | [], s => some s
  | g :: gs, s => (y s g.1 g.2).bind fun x => if x.2 then itG y gs x.1 else some x.1

def okL (l : List aI) : Prop := l.length ≤ 3518437208783 ∧ ∀ e ∈ l, e.Row.length ≤ 4398046510976

theorem RV {r : List aB} (h : r.length ≤ 4398046510976) : uY r = some r := by
  unfold uY
  rw [aK ⟨by omega, by omega, by omega⟩, aK (by simp only [List.length_nil, Nat.zero_add]; omega)]
  rfl

theorem GM {σ : Type} {y : σ → List aB → List aM → Option (σ × Bool)} {l : List aI} (hl : okL l) (row : List aB) (sg : σ) : ∀ (r : List aI) (k : Nat) (f : List aM), l.drop k = r → k ≤ l.length → f.length ≤ k →
    ∃ k' f', k ≤ k' ∧ k' ≤ l.length ∧ f'.length ≤ k' ∧ lp (fun s : σ × Int × List aM => jF y l row s.1 s.2.1 s.2.2) (sg, (k : Int), f) = some (sg, ((k' : Nat) : Int), f') ∧
      gA row f r = (row, f') :: groups (l.drop k') ∧ (∀ e r', r = e :: r' → e.Row = row → k < k')
  | [], k, f, hd, hk, hf => by
    have : k = l.length := by
      have := congrArg List.length hd
      simp only [List.length_drop, List.length_nil] at this; omega
    subst this
    refine ⟨l.length, f, Nat.le_refl _, Nat.le_refl _, hf, cO ?_, by simp [gA, groups], fun e r' h => by cases h⟩
    show jF _ _ _ _ _ _ = _
    simp only [jF, iZ, cX, cond_false, Option.bind_some, Bool.false_and]
    exact aK (fun h => by cases h)
  | a :: r, k, f, hd, hk, hf => by
    obtain ⟨h1, h2⟩ := drop_cons hd
    have hlt : k < l.length := (List.getElem?_eq_some_iff.1 h1).1
    obtain ⟨hll, hlr⟩ := hl
    obtain ⟨d1, d2, d3, d4⟩ := idx h1 (by omega)
    have har := hlr a (List.mem_of_getElem? h1)
    have hb : (fun s : σ × Int × List aM => jF y l row s.1 s.2.1 s.2.2) (sg, (k : Int), f) = some (if a.Row = row then .inl (sg, ((k + 1 : Nat) : Int), f ++ [jE a]) else .inr (sg, (k : Int), f)) := by
      show jF _ _ _ _ _ _ = _
      simp only [jF, d1, d3, d4, cX, cond_true, HE a.Row row (by omega), Option.bind_some, Bool.true_and]
      rw [aK (fun _ => d2)]
      by_cases e : a.Row = row
      · simp only [e, decide_true, cond_true, if_true]
        rw [aK d2, aK d2, aK (by simp only [List.length_cons, List.length_nil]; omega)]
        rfl
      · simp [e]
    by_cases e : a.Row = row
    · rw [if_pos e] at hb
      obtain ⟨k', f', g1, g2, g3, g4, g5, _⟩ := GM ⟨hll, hlr⟩ row sg r (k + 1) (f ++ [jE a]) h2 (by omega) (by simp; omega) (y := y)
      refine ⟨k', f', by omega, g2, g3, by rw [fI hb]; exact g4, by simp [gA, e, g5], fun _ _ _ _ => by omega⟩
    · rw [if_neg e] at hb
      refine ⟨k, f, Nat.le_refl _, hk, hf, cO hb, ?_, fun b r' h hr => by cases h; exact absurd hr e⟩
      rw [hd]; simp [gA, e, groups]

theorem SE {σ : Type} {y : σ → List aB → List aM → Option (σ × Bool)} {l : List aI} (hl : okL l) : ∀ (m k : Nat) (sg s' : σ), l.length - k ≤ m → k ≤ l.length → itG y (groups (l.drop k)) sg = some s' →
    ∃ x, lp (fun s : σ × Int => iG y l s.1 s.2) (sg, (k : Int)) = some x ∧ Sum.elim id id x = s' := by
  have stop : ∀ (sg s' : σ), itG y (groups (l.drop l.length)) sg = some s' → ∃ x, lp (fun s : σ × Int => iG y l s.1 s.2) (sg, ((l.length : Nat) : Int)) = some x ∧ Sum.elim id id x = s' := by
    intro sg s' h
    rw [List.drop_length] at h
    simp only [groups, itG, Option.some.injEq] at h
    refine ⟨.inl sg, cO ?_, h⟩
    show iG _ _ _ _ = _
    simp only [iG, iZ, cond_false]
  intro m
  induction m with
  | zero =>
    intro k sg s' hm hk h
    have : k = l.length := by omega
    subst this; exact stop sg s' h
  | succ m ih =>
    intro k sg s' hm hk h
    by_cases he : k = l.length
    · subst he; exact stop sg s' h
    · have hlt : k < l.length := by omega
      have hd : l.drop k = l[k] :: l.drop (k + 1) := List.drop_eq_getElem_cons hlt
      obtain ⟨d1, d2, d3, d4⟩ := idx (List.getElem?_eq_getElem hlt) (by have := hl.1; omega)
      obtain ⟨k', f', g1, g2, g3, g4, g5, g6⟩ := GM hl l[k].Row sg (l.drop k) k [] rfl hk (by simp) (y := y)
      have hk' := g6 _ _ hd rfl
      have hg : groups (l.drop k) = (l[k].Row, f') :: groups (l.drop k') := by
        rw [← g5, hd]; simp [groups, gA]
      rw [hg] at h
      simp only [itG] at h
      obtain ⟨x, hx, h⟩ := aV h
      have hrow := hl.2 _ (List.getElem_mem hlt)
      have hb : (fun s : σ × Int => iG y l s.1 s.2) (sg, (k : Int)) = some (if x.2 then .inl (x.1, ((k' : Nat) : Int)) else .inr (.inr x.1)) := by
        show iG _ _ _ _ = _
        simp only [iG, d1, cond_true, aK d2, d3, qV, g4, Option.bind_some, oF, RV hrow, hx]
        cases x.2 <;> simp
      cases hx2 : x.2
      · rw [hx2] at hb h
        simp only [Bool.false_eq_true, if_false, Option.some.injEq] at hb h
        exact ⟨_, cO hb, h⟩
      · rw [hx2] at hb h
        simp only [if_true] at hb h
        obtain ⟨z, hz1, hz2⟩ := ih k' x.1 s' (by omega) g2 h
        exact ⟨z, by rw [fI hb]; exact hz1, hz2⟩

theorem YL {σ : Type} {y : σ → List aB → List aM → Option (σ × Bool)} {l : List aI} (hl : okL l) {s s' : σ} (h : itG y (groups l) s = some s') : pF y l s = some s' := by
  unfold pF qJ
  obtain ⟨x, h1, h2⟩ := SE hl l.length 0 s s' (by omega) (Nat.zero_le _) (by simpa using h)
  simp only [Int.natCast_zero] at h1
  rw [h1]
  cases x <;> simpa using h2

def ahd (last : Option (List aB)) (r : List aB) : Bool := match last with
  | none => true
  | some q => decide (gX q r < 0)

def uC (p : List aM → Bool) : Option (List aB) → List (List aB × List aM) → Bool
  | _, [] => true
  | last, g :: gs => (jP g.1 && ahd last g.1 && p g.2) && uC p (some g.1) gs

theorem PU {holds : List aM → Option Bool} {p : List aM → Bool} (hp : ∀ f, holds f = some (p f)) (c : List aI) (t : Bool) : ∀ (gs : List (List aB × List aM)) (last : List aB) (b : Bool), (b = true → jP last = true) →
    ∃ x, itG (fun st r f => rnd (fun (s : Bool × (List aB) × Bool) => nX holds c s.1 s.2.1 s.2.2 r f) st) gs (.inl (t, last, b)) = some x ∧
      (if uC p (if b then some last else none) gs then ∃ u, x = .inl (t, u) else ∃ u, x = .inr (false, u))
  | [], last, b, _ => ⟨_, rfl, by simp [uC]⟩
  | g :: gs, last, b, hb => by
    have hy : nX holds c t last b g.1 g.2 = some (if jP g.1 && ahd (if b then some last else none) g.1 && p g.2 then .inl (t, g.1, true) else .inr (false, last, b)) := by
      unfold nX
      simp only [IV, Option.bind_some, TC, hp]
      cases hm : jP g.1
      · simp [cX]
      · cases b
        · cases h2 : p g.2 <;> simp [cX, ahd, h2]
        · have hl := hb rfl
          by_cases h1 : gX last g.1 < 0
          · have h1' : ¬ (0 ≤ gX last g.1) := by omega
            cases h2 : p g.2 <;> simp [cX, ahd, h2, hl, h1, h1']
          · have h1' : 0 ≤ gX last g.1 := by omega
            simp [cX, ahd, hl, h1, h1']
    cases hc : (jP g.1 && ahd (if b then some last else none) g.1 && p g.2)
    · rw [hc] at hy
      simp only [itG, rnd, hy, Option.bind_some, uC, hc]
      exact ⟨.inr (false, last, b), by simp, by simp⟩
    · rw [hc] at hy
      simp only [itG, rnd, hy, Option.bind_some, uC, hc]
      have hm : jP g.1 = true := by simp only [Bool.and_eq_true] at hc; exact hc.1.1
      obtain ⟨x, h1, h2⟩ := PU hp c t gs g.1 true (fun _ => hm)
      refine ⟨x, ?_, ?_⟩
      · simpa [rnd] using h1
      · simpa using h2

theorem PD {l : List aI} (hl : okL l) {holds : List aM → Option Bool} {p : List aM → Bool} (hp : ∀ f, holds f = some (p f)) : rQ l holds = some (decide (l.length ≤ 4096) && uC p none (groups l)) := by
  unfold rQ
  by_cases h : l.length ≤ 4096
  · have h1 : decide ((4096 : Int) < ((l.length : Nat) : Int)) = false := by simp; omega
    rw [h1, cond_false]
    simp only [wE, Option.bind_some, vA]
    obtain ⟨x, e1, e2⟩ := PU hp l false (groups l) [] false (fun h => by cases h)
    rw [YL hl e1]
    simp only [Bool.false_eq_true, if_false] at e2
    simp only [h, decide_true, Bool.true_and]
    cases hc : uC p none (groups l)
    · rw [hc] at e2
      simp only [Bool.false_eq_true, if_false] at e2
      obtain ⟨u, rfl⟩ := e2
      rfl
    · rw [hc] at e2
      simp only [if_true] at e2
      obtain ⟨u, rfl⟩ := e2
      rfl
  · have h1 : decide ((4096 : Int) < ((l.length : Nat) : Int)) = true := by simp; omega
    rw [h1, cond_true]
    simp [h]

def mM (l : List aI) : Bool := decide (l.length ≤ 4096) && uC mJ none (groups l)

theorem ZB {l : List aI} (hl : okL l) : vB l = some (mM l) := by
  unfold vB
  rw [PD hl (p := mJ) (fun f => NG f)]; rfl

def IF (f : List aM) : Bool := mJ f && decide (0 ≤ sH f)

def oX (l : List aI) : Bool := decide (l.length ≤ 4096) && uC IF none (groups l)

theorem TS {l : List aI} (hl : okL l) : sJ l = some (oX l) := by
  unfold sJ
  rw [PD hl (p := IF) (fun f => by
    unfold pW IF
    rw [NG]
    cases h : mJ f <;> simp [cX, WI, h])]
  rfl

def nK (r : List aB) (f : List aM) : List aI := f.map fun j => ⟨r, j.At, j.Net⟩

def flat (gs : List (List aB × List aM)) : List aI := gs.flatMap fun g => nK g.1 g.2

theorem IU : ∀ (l : List aI) (r : List aB) (f : List aM), flat (gA r f l) = nK r f ++ l
  | [], r, f => by simp [gA, flat]
  | e :: l, r, f => by
    unfold gA
    split
    · rename_i h
      rw [IU l r]
      simp [nK, jE, ← h]
    · have := IU l e.Row [jE e]
      simp only [flat, List.flatMap_cons] at this ⊢
      rw [this]
      simp [nK, jE]

theorem wH (l : List aI) : flat (groups l) = l := by
  cases l with
  | nil => rfl
  | cons e l => unfold groups; rw [IU]; simp [nK, jE]

theorem NX {r : List aB} : ∀ {l : List aI} {f : List aM} {g : List aB × List aM}, g ∈ gA r f l → f ≠ [] → g.2 ≠ [] ∧ (g.1 = r ∨ ∃ e ∈ l, g.1 = e.Row)
  | [], f, g, h, hf => by simp only [gA, List.mem_singleton] at h; subst h; exact ⟨hf, .inl rfl⟩
  | e :: l, f, g, h, hf => by
    unfold gA at h
    split at h
    · obtain ⟨h1, h2⟩ := NX h (by simp)
      exact ⟨h1, h2.imp id fun ⟨x, hx, hx'⟩ => ⟨x, by simp [hx], hx'⟩⟩
    · rcases List.mem_cons.1 h with rfl | h
      · exact ⟨hf, .inl rfl⟩
      · obtain ⟨h1, h2⟩ := NX (r := e.Row) h (by simp)
        refine ⟨h1, .inr ?_⟩
        rcases h2 with h2 | ⟨x, hx, hx'⟩
        · exact ⟨e, by simp, h2⟩
        · exact ⟨x, by simp [hx], hx'⟩

theorem QJ {l : List aI} {g : List aB × List aM} (h : g ∈ groups l) : g.2 ≠ [] ∧ ∃ e ∈ l, g.1 = e.Row := by
  cases l with
  | nil => simp [groups] at h
  | cons e l =>
    obtain ⟨h1, h2⟩ := NX h (by simp)
    refine ⟨h1, ?_⟩
    rcases h2 with h2 | ⟨x, hx, hx'⟩
    · exact ⟨e, by simp, h2⟩
    · exact ⟨x, by simp [hx], hx'⟩

end Go.Abs
namespace Go.Abs
open Go
def fJ (l : List aI) (r : List aB) : List aM := (l.filter fun e => decide (e.Row = r)).map jE

theorem AB (a b : List aI) (r : List aB) : fJ (a ++ b) r = fJ a r ++ fJ b r := by simp [fJ]

theorem KP (q : List aB) (f : List aM) (r : List aB) : fJ (nK q f) r = if q = r then f else [] := by
  induction f with
  | nil => simp [fJ, nK]
  | cons j f ih =>
    have h1 : nK q (j :: f) = [⟨q, j.At, j.Net⟩] ++ nK q f := rfl
    rw [h1, AB, ih]
    by_cases h : q = r <;> simp [fJ, jE, h]

def look : List (List aB × List aM) → List aB → List aM
  | [], _ => []
  | g :: gs, r => if g.1 = r then g.2 else look gs r

theorem zB (g : List aB × List aM) (gs : List (List aB × List aM)) (r : List aB) : look (g :: gs) r = if g.1 = r then g.2 else look gs r := rfl

abbrev ltG (a b : List aB × List aM) : Prop := gX a.1 b.1 < 0

abbrev CC (gs : List (List aB × List aM)) : Prop := gs.Pairwise ltG

theorem AH {a : List aB} : ¬ gX a a < 0 := by rw [(qI.eq a a).2 rfl]; omega

theorem JH : ∀ {gs : List (List aB × List aM)} {r : List aB}, (∀ g ∈ gs, g.1 ≠ r) → look gs r = []
  | [], _, _ => rfl
  | g :: gs, r, h => by
    rw [zB]
    rw [if_neg (h g (by simp))]
    exact JH fun q hq => h q (by simp [hq])

theorem HO (gs : List (List aB × List aM)) (r : List aB) : (look gs r = [] ∧ ∀ g ∈ gs, g.1 ≠ r) ∨ ∃ g ∈ gs, g.1 = r ∧ look gs r = g.2 := by
  induction gs with
  | nil => exact .inl ⟨rfl, by simp⟩
  | cons g gs ih =>
    rw [zB]
    by_cases h : g.1 = r
    · rw [if_pos h]; exact .inr ⟨g, by simp, h, rfl⟩
    · rw [if_neg h]
      rcases ih with ⟨h1, h2⟩ | ⟨q, hq, h1, h2⟩
      · refine .inl ⟨h1, fun q hq => ?_⟩
        rcases List.mem_cons.1 hq with rfl | hq
        · exact h
        · exact h2 q hq
      · exact .inr ⟨q, by simp [hq], h1, h2⟩

theorem LG {gs : List (List aB × List aM)} (hs : CC gs) {g : List aB × List aM} (hg : g ∈ gs) : look gs g.1 = g.2 := by
  induction gs with
  | nil => simp at hg
  | cons q gs ih =>
    have hs' := List.pairwise_cons.1 hs
    rw [zB]
    rcases List.mem_cons.1 hg with rfl | hg
    · rw [if_pos rfl]
    · rw [if_neg (fun e => by have := hs'.1 g hg; simp only [ltG, e] at this; exact AH this)]
      exact ih hs'.2 hg

theorem KJ (g : List aB × List aM) (gs : List (List aB × List aM)) : flat (g :: gs) = nK g.1 g.2 ++ flat gs := rfl

theorem CM : ∀ {gs : List (List aB × List aM)}, CC gs → ∀ r, fJ (flat gs) r = look gs r
  | [], _, r => rfl
  | g :: gs, hs, r => by
    have hs' := List.pairwise_cons.1 hs
    rw [KJ, AB, KP, CM hs'.2, zB]
    by_cases h : g.1 = r
    · rw [if_pos h, if_pos h, JH, List.append_nil]
      intro q hq e
      have := hs'.1 q hq
      simp only [ltG, h, e] at this; exact AH this
    · rw [if_neg h, if_neg h]; rfl

theorem uS {p : List aM → Bool} : ∀ {gs : List (List aB × List aM)} {last : Option (List aB)}, uC p last gs = true ↔ (∀ g ∈ gs, jP g.1 = true ∧ p g.2 = true) ∧ CC gs ∧ (∀ q, last = some q → ∀ g ∈ gs, gX q g.1 < 0)
  | [], last => by simp [uC]
  | g :: gs, last => by
    unfold uC
    simp only [Bool.and_eq_true, uS (gs := gs), List.mem_cons, List.pairwise_cons]
    constructor
    · rintro ⟨⟨⟨h1, h2⟩, h3⟩, h4, h5, h6⟩
      refine ⟨?_, ⟨fun q hq => h6 _ rfl q hq, h5⟩, ?_⟩
      · rintro q (rfl | hq)
        · exact ⟨h1, h3⟩
        · exact h4 q hq
      · rintro q rfl x (rfl | hx)
        · simpa [ahd] using h2
        · simp only [ahd, decide_eq_true_eq] at h2
          exact qI.trans _ _ _ h2 (h6 _ rfl x hx)
    · rintro ⟨h1, ⟨h2, h3⟩, h4⟩
      refine ⟨⟨⟨(h1 g (.inl rfl)).1, ?_⟩, (h1 g (.inl rfl)).2⟩, fun q hq => h1 q (.inr hq), h3, ?_⟩
      · unfold ahd
        split
        · rfl
        · exact decide_eq_true (h4 _ rfl g (.inl rfl))
      · rintro q hq x hx
        cases hq
        exact h2 x hx

theorem oO {l : List aI} (h : mM l = true) : l.length ≤ 4096 ∧ (∀ g ∈ groups l, jP g.1 = true ∧ mJ g.2 = true) ∧ CC (groups l) := by
  simp only [mM, Bool.and_eq_true, decide_eq_true_eq] at h
  obtain ⟨h1, h2, _⟩ := uS.1 h.2
  exact ⟨h.1, h1, h2⟩

theorem TM {l : List aI} (h : mM l = true) (r : List aB) : mJ (look (groups l) r) = true := by
  rcases HO (groups l) r with ⟨h1, _⟩ | ⟨g, hg, _, h1⟩
  · rw [h1]; exact ZD
  · rw [h1]; exact ((oO h).2.1 g hg).2

theorem xC {l : List aI} (h : CC (groups l)) (r : List aB) : look (groups l) r = fJ l r := by
  rw [← CM h, wH]

theorem YG (r : List aB) (f : List aM) (e : aI) (l : List aI) : gA r f (e :: l) = if e.Row = r then gA r (f ++ [jE e]) l else (r, f) :: gA e.Row [jE e] l := rfl

end Go.Abs
namespace Go.Abs
open Go
abbrev leE (x y : aI) : Prop := gX x.Row y.Row < 0 ∨ (x.Row = y.Row ∧ x.At ≤ y.At)

theorem MS : ∀ {l : List aI} {r : List aB} {f : List aM}, Srt leE l → (∀ e ∈ l, e.Row = r ∨ gX r e.Row < 0) → CC (gA r f l) ∧ ∀ g ∈ gA r f l, g.1 = r ∨ gX r g.1 < 0
  | [], r, f, _, _ => by simp [gA]
  | e :: l, r, f, hs, hr => by
    have hs' := List.pairwise_cons.1 hs
    rw [YG]
    by_cases h : e.Row = r
    · rw [if_pos h]
      exact MS hs'.2 (fun x hx => hr x (by simp [hx]))
    · rw [if_neg h]
      have hlt : gX r e.Row < 0 := (hr e (by simp)).resolve_left h
      obtain ⟨h1, h2⟩ := MS (r := e.Row) (f := [jE e]) hs'.2 (fun x hx => by
        rcases hs'.1 x hx with h | ⟨h, _⟩
        · exact .inr h
        · exact .inl h.symm)
      have key : ∀ g ∈ gA e.Row [jE e] l, gX r g.1 < 0 := fun g hg => by
        rcases h2 g hg with h | h
        · rw [h]; exact hlt
        · exact qI.trans _ _ _ hlt h
      refine ⟨List.pairwise_cons.2 ⟨key, h1⟩, ?_⟩
      intro g hg
      rcases List.mem_cons.1 hg with rfl | hg
      · exact .inl rfl
      · exact .inr (key g hg)

theorem RM {l : List aI} (hs : Srt leE l) : CC (groups l) := by
  cases l with
  | nil => exact List.Pairwise.nil
  | cons e l =>
    have hs' := List.pairwise_cons.1 hs
    exact (MS hs'.2 (fun x hx => by
      rcases hs'.1 x hx with h | ⟨h, _⟩
      · exact .inr h
      · exact .inl h.symm)).1

abbrev RO (rs : List (List aB)) : Prop := rs.Pairwise fun a b => gX a b < 0

def pM (r : List aB) : List (List aB) → List (List aB)
  | [] => [r]
  | x :: xs => if gX x r < 0 then x :: pM r xs else if x = r then x :: xs else r :: x :: xs

def rowsOf (l : List aI) : List (List aB) := l.foldl (fun rs e => pM e.Row rs) []

theorem BF {r x : List aB} : ∀ {rs : List (List aB)}, x ∈ pM r rs ↔ x = r ∨ x ∈ rs
  | [] => by simp [pM]
  | y :: ys => by
    unfold pM
    split
    · simp only [List.mem_cons, BF (rs := ys)]
      constructor
      · rintro (h | h | h)
        · exact .inr (.inl h)
        · exact .inl h
        · exact .inr (.inr h)
      · rintro (h | h | h)
        · exact .inr (.inl h)
        · exact .inl h
        · exact .inr (.inr h)
    · split
      · rename_i h; subst h; simp
      · simp

theorem ME {r : List aB} : ∀ {rs : List (List aB)}, RO rs → RO (pM r rs)
  | [], _ => by simp [pM]
  | y :: ys, hs => by
    have hs' := List.pairwise_cons.1 hs
    unfold pM
    split
    · rename_i h
      refine List.pairwise_cons.2 ⟨fun z hz => ?_, ME hs'.2⟩
      rcases BF.1 hz with rfl | hz
      · exact h
      · exact hs'.1 z hz
    · rename_i h
      split
      · exact hs
      · rename_i hne
        have hlt : gX r y < 0 := by
          have h0 : gX y r ≠ 0 := fun e => hne ((qI.eq _ _).1 e)
          exact (qI.anti _ _).2 (by omega)
        refine List.pairwise_cons.2 ⟨fun z hz => ?_, hs⟩
        rcases List.mem_cons.1 hz with rfl | hz
        · exact hlt
        · exact qI.trans _ _ _ hlt (hs'.1 z hz)

theorem JM : ∀ (l : List aI) (rs : List (List aB)), RO rs → RO (l.foldl (fun rs e => pM e.Row rs) rs) ∧ ∀ x, x ∈ l.foldl (fun rs e => pM e.Row rs) rs ↔ x ∈ rs ∨ ∃ e ∈ l, e.Row = x
  | [], rs, hs => ⟨hs, by simp⟩
  | e :: l, rs, hs => by
    obtain ⟨h1, h2⟩ := JM l (pM e.Row rs) (ME hs)
    refine ⟨h1, fun x => ?_⟩
    simp only [List.foldl_cons]
    rw [h2 x, BF]
    simp only [List.mem_cons, exists_eq_or_imp]
    constructor
    · rintro ((h | h) | h)
      · exact .inr (.inl h.symm)
      · exact .inl h
      · exact .inr (.inr h)
    · rintro (h | h | h)
      · exact .inl (.inr h)
      · exact .inl (.inl h.symm)
      · exact .inr h

theorem GQ {l : List aI} {x : List aB} : x ∈ rowsOf l ↔ ∃ e ∈ l, e.Row = x := by
  have := (JM l [] List.Pairwise.nil).2 x
  simpa [rowsOf] using this

theorem PB {l : List aI} {r : List aB} (h : ∀ e ∈ l, e.Row ≠ r) : fJ l r = [] := by
  unfold fJ
  rw [List.map_eq_nil_iff, List.filter_eq_nil_iff]
  intro e he
  simpa using h e he

end Go.Abs
namespace Go.Abs
open Go
def vL : aB := ⟨1, 1, ByteArray.empty⟩

end Go.Abs
namespace Go.Abs
open Go
theorem AU {l : List aI} (hm : mM l = true) {e : aI} (he : e ∈ l) : jP e.Row = true ∧ -2 < e.At ∧ e.At < 1125899906842624 ∧ e.Net ≠ 0 ∧ e.Net ≤ 1048576 ∧ -1048576 ≤ e.Net := by
  obtain ⟨_, h2, _⟩ := oO hm
  have he' : e ∈ flat (groups l) := by rw [wH]; exact he
  obtain ⟨g, hg, h1⟩ := List.mem_flatMap.1 he'
  obtain ⟨j, hj, rfl⟩ := List.mem_map.1 h1
  obtain ⟨a, b⟩ := h2 g hg
  exact ⟨a, (rV.1 b).2.above j hj⟩

theorem xM {l : List aI} (hm : mM l = true) (r : List aB) : mJ (fJ l r) = true := by
  rw [← xC (oO hm).2.2]; exact TM hm r

end Go.Abs
namespace Go.Abs
open Go
theorem ER {l : List aI} (hl : okL l) (hn : l.length ≤ 1099511627776) {r : List aB} : oQ l r = some (fJ l r) := by
  unfold oQ tJ
  rw [rP (l := l) (body := fun s : List aM × Int => lK l r s.1 s.2) (fun o i => (o, i)) (fun o t => o ++ fJ t r) (fun o t => o.length + t.length ≤ 1099511627776) [] ?_ ?_ (by simpa using hn)]
  · rfl
  · intro i a t o ha hi
    left
    obtain ⟨d1, d2, d3, d4⟩ := idx ha (by omega)
    simp only [List.length_cons] at hi
    have hr := hl.2 a (List.mem_of_getElem? ha)
    have hb : lK l r o (i : Int) = some (.inl (if a.Row = r then o ++ [jE a] else o, ((i + 1 : Nat) : Int))) := by
      simp only [lK, pT, d1, cond_true, aK d2, d3, d4, BN a.Row r (by omega), Option.bind_some]
      by_cases e : a.Row = r
      · simp only [e, decide_true, cond_true, if_true]
        rw [aK (by simp only [List.length_cons, List.length_nil]; omega)]; rfl
      · simp [e]
    refine ⟨_, hb, ?_, ?_⟩
    · split
      · simp; omega
      · omega
    · by_cases e : a.Row = r <;> simp [fJ, e]
  · intro o _
    show lK _ _ _ _ = _
    simp only [lK, iZ, cond_false]
    simp [fJ]

theorem EZ (r : List aB) : ∀ rs : List (List aB), (pM r rs).length ≤ rs.length + 1
  | [] => by simp [pM]
  | x :: xs => by
    unfold pM
    split
    · simp only [List.length_cons]; have := EZ r xs; omega
    · split <;> simp

def tN (r : List aB) : List (List aB) → Nat
  | [] => 0
  | x :: xs => if gX x r < 0 then tN r xs + 1 else 0

theorem PK (r : List aB) : ∀ rs, tN r rs ≤ rs.length
  | [] => by simp [tN]
  | x :: xs => by unfold tN; split <;> simp [PK r xs]

theorem MU (r : List aB) : ∀ rs, pM r rs = if rs[tN r rs]? = some r then rs else rs.take (tN r rs) ++ [r] ++ rs.drop (tN r rs)
  | [] => by simp [pM]
  | x :: xs => by
    unfold pM tN
    by_cases h : gX x r < 0
    · rw [if_pos h, if_pos h, MU r xs]
      simp only [List.getElem?_cons_succ, List.take_succ_cons, List.drop_succ_cons]
      split <;> simp
    · rw [if_neg h, if_neg h]
      by_cases e : x = r <;> simp [e]

theorem GR {l : List aI} {rs : List (List aB)} {e : aI} {i : Nat} (hi : l[i]? = some e) (hl : okL l) (he : jP e.Row = true) (hr : ∀ x ∈ rs, jP x = true) (hn : rs.length ≤ 1099511627776) : ∀ (t : List (List aB)) (k : Nat), rs.drop k = t → k ≤ rs.length →
    lp (fun s : List (List aB) × Int => kY l (i : Int) s.1 s.2) (rs, (k : Int)) = some (rs, ((k + tN e.Row t : Nat) : Int))
  | [], k, hd, hk => by
    have : k = rs.length := by
      have := congrArg List.length hd
      simp only [List.length_drop, List.length_nil] at this; omega
    subst this
    refine cO ?_
    show kY _ _ _ _ = _
    simp only [kY, iZ, cX, cond_false, Option.bind_some, Bool.false_and]
    rw [aK (fun h => by cases h), aK (fun h => by cases h)]
    simp [tN]
  | x :: t, k, hd, hk => by
    obtain ⟨h1, h2⟩ := drop_cons hd
    have hlt := (List.getElem?_eq_some_iff.1 h1).1
    obtain ⟨d1, d2, d3, d4⟩ := idx h1 (by omega)
    obtain ⟨_, c2, c3, _⟩ := idx hi (by have := hl.1; omega)
    have hx := hr x (List.mem_of_getElem? h1)
    have hb : (fun s : List (List aB) × Int => kY l (i : Int) s.1 s.2) (rs, (k : Int)) = some (if gX x e.Row < 0 then .inl (rs, ((k + 1 : Nat) : Int)) else .inr (rs, (k : Int))) := by
      show kY _ _ _ _ = _
      simp only [kY, d1, cX, cond_true, d3, c3, d4, Bool.true_and]
      rw [aK (fun _ => d2), aK (fun _ => c2), BZ x e.Row (by have := (vW hx).1; omega) (by have := (vW he).1; omega), hx, he]
      simp only [Bool.and_self, if_true, Option.bind_some]
      by_cases h : gX x e.Row < 0 <;> simp [h]
    unfold tN
    by_cases h : gX x e.Row < 0
    · rw [if_pos h] at hb
      rw [fI hb, GR hi hl he hr hn t (k + 1) h2 (by omega), if_pos h]
      congr 3; omega
    · rw [if_neg h] at hb
      rw [cO hb, if_neg h]; rfl

theorem GS {l : List aI} (hl : okL l) (hm : ∀ e ∈ l, jP e.Row = true) (hn : l.length ≤ 1099511627776) : pV l = some (rowsOf l) := by
  unfold pV uB
  rw [rP (l := l) (body := fun s : List (List aB) × Int => mD l s.1 s.2) (fun o i => (o, i)) (fun o t => t.foldl (fun rs e => pM e.Row rs) o) (fun o t => o.length + t.length ≤ 1099511627776 ∧ ∀ x ∈ o, jP x = true) [] ?_ ?_ ⟨by simpa using hn, by simp⟩]
  · rfl
  · rintro i e t rs hi ⟨h1, h2⟩
    left
    obtain ⟨d1, d2, d3, d4⟩ := idx hi (by omega)
    have he := hm e (List.mem_of_getElem? hi)
    simp only [List.length_cons] at h1
    refine ⟨pM e.Row rs, ?_, ⟨by have := EZ e.Row rs; omega, fun x hx => by
      rcases BF.1 hx with rfl | h
      · exact he
      · exact h2 x h⟩, rfl⟩
    show mD _ _ _ = _
    have hin := GR hi hl he h2 (by omega) rs 0 rfl (Nat.zero_le _)
    simp only [Int.natCast_zero, Nat.zero_add] at hin
    have hple := PK e.Row rs
    simp only [mD, d1, cond_true, uE, hin, Option.bind_some, rM, rF, d3, d4]
    rw [MU]
    by_cases hp : tN e.Row rs < rs.length
    · have hx : rs[tN e.Row rs]? = some rs[tN e.Row rs] := List.getElem?_eq_getElem hp
      obtain ⟨f1, f2, f3, _⟩ := idx hx (by omega)
      have hrow := h2 _ (List.mem_of_getElem? hx)
      simp only [f1, f3, cX, cond_true, Bool.true_and]
      rw [aK (fun _ => f2), aK (fun _ => d2), BN _ _ (by have := (vW hrow).1; omega)]
      by_cases hq : rs[tN e.Row rs] = e.Row
      · simp [hq, hx]
      · simp only [hq, decide_false, cond_false, Option.bind_some, hx, Option.some.injEq, if_false, Int.toNat_natCast]
        rw [aK ⟨by omega, by omega⟩, aK ⟨by simp; omega, by simp; omega⟩, aK d2, aK ⟨by simp; omega, by simp; omega⟩, aK ⟨by omega, by omega⟩, aK ⟨by simp; omega, by simp; omega⟩]
    · have hpe : tN e.Row rs = rs.length := by omega
      rw [hpe]
      simp only [iZ, cX, cond_false, Option.bind_some, Bool.false_and]
      rw [aK (fun h => by cases h), aK (fun h => by cases h)]
      have hnone : rs[rs.length]? = none := by simp
      simp only [hnone, reduceCtorEq, if_false, Int.toNat_natCast]
      rw [aK ⟨by omega, by omega⟩, aK ⟨by simp; omega, by simp; omega⟩, aK d2, aK ⟨by simp; omega, by simp; omega⟩, aK ⟨by omega, by omega⟩, aK ⟨by simp; omega, by simp; omega⟩]
  · rintro rs ⟨_, _⟩
    show mD _ _ _ = _
    simp only [mD, iZ, cond_false]
    rfl

theorem BQ : ∀ (l : List aI) (rs : List (List aB)), (l.foldl (fun rs e => pM e.Row rs) rs).length ≤ rs.length + l.length
  | [], rs => by simp
  | e :: l, rs => by
    have := BQ l (pM e.Row rs)
    have := EZ e.Row rs
    simp only [List.foldl_cons, List.length_cons]; omega

theorem GO (l : List aI) : (rowsOf l).length ≤ l.length := by
  have := BQ l []
  simpa [rowsOf] using this

end Go.Abs
namespace Go.Abs
open Go
abbrev ltE (x y : aI) : Prop := gX x.Row y.Row < 0 ∨ (x.Row = y.Row ∧ x.At < y.At)

theorem TY {x y z : aI} (h1 : ltE x y) (h2 : ltE y z) : ltE x z := by
  rcases h1 with h1 | ⟨h1, h1'⟩ <;> rcases h2 with h2 | ⟨h2, h2'⟩
  · exact .inl (qI.trans _ _ _ h1 h2)
  · exact .inl (h2 ▸ h1)
  · exact .inl (h1 ▸ h2)
  · exact .inr ⟨h1.trans h2, by omega⟩

theorem yV : ∀ {f : List aM} {last : Int}, sG last f ↔ (∀ j ∈ f, oA last j = false) ∧ f.Pairwise fun a b => a.At < b.At
  | [], last => by simp [sG]
  | j :: f, last => by
    rw [List.pairwise_cons]
    unfold sG
    rw [← kZ]
    constructor
    · rintro ⟨h1, h2⟩
      have h3 := yV.1 h2
      have h4 := kZ.1 h1
      refine ⟨fun k hk => ?_, fun k hk => (kZ.1 (h3.1 k hk)).1, h3.2⟩
      rcases List.mem_cons.1 hk with rfl | hk
      · exact h1
      · have := kZ.1 (h3.1 k hk)
        exact kZ.2 (by omega)
    · rintro ⟨h1, h2, h3⟩
      refine ⟨h1 j (by simp), yV.2 ⟨fun k hk => ?_, h3⟩⟩
      have := kZ.1 (h1 k (by simp [hk]))
      have := h2 k hk
      exact kZ.2 (by omega)

theorem BI {l : List aI} : mM l = true ↔ l.length ≤ 4096 ∧ (∀ e ∈ l, jP e.Row = true ∧ oA (-2) (jE e) = false) ∧ l.Pairwise ltE ∧ ∀ r ∈ rowsOf l, (fJ l r).length ≤ 1024 := by
  constructor
  · intro h
    obtain ⟨h1, h2, h3⟩ := oO h
    refine ⟨h1, fun e he => ?_, ?_, fun r _ => (rV.1 (xM h r)).1⟩
    · obtain ⟨a, b, c, d, e1, e2⟩ := AU h he
      exact ⟨a, kZ.2 ⟨b, c, d, e1, e2⟩⟩
    · rw [← wH l]
      unfold flat
      rw [List.flatMap, List.pairwise_flatten, List.pairwise_map]
      constructor
      · intro x hx
        obtain ⟨g, hg, rfl⟩ := List.mem_map.1 hx
        have := (yV.1 (rV.1 (h2 g hg).2).2).2
        rw [nK, List.pairwise_map]
        exact this.imp fun h => .inr ⟨rfl, h⟩
      · refine h3.imp fun {a b} h x hx y hy => ?_
        obtain ⟨j, _, rfl⟩ := List.mem_map.1 hx
        obtain ⟨k, _, rfl⟩ := List.mem_map.1 hy
        exact .inl h
  · rintro ⟨h1, h2, h3, h4⟩
    have hs : Srt leE l := h3.imp fun h => by
      rcases h with h | ⟨h, h'⟩
      · exact .inl h
      · exact .inr ⟨h, by omega⟩
    have hg := RM hs
    unfold mM
    rw [Bool.and_eq_true]
    refine ⟨by simpa using h1, uS.2 ⟨fun g hg' => ?_, hg, fun q hq => by cases hq⟩⟩
    obtain ⟨_, e, he, h5⟩ := QJ hg'
    have hj : g.2 = fJ l g.1 := by rw [← xC hg, LG hg hg']
    refine ⟨by rw [h5]; exact (h2 e he).1, ?_⟩
    rw [hj]
    refine rV.2 ⟨h4 _ (GQ.2 ⟨e, he, h5.symm⟩), yV.2 ⟨fun j hj => ?_, ?_⟩⟩
    · obtain ⟨e, he, rfl⟩ := List.mem_map.1 hj
      exact (h2 e (List.mem_filter.1 he).1).2
    · unfold fJ
      rw [List.pairwise_map, List.pairwise_filter]
      refine h3.imp fun {a b} h ha hb => ?_
      rcases h with h | ⟨_, h⟩
      · simp only [decide_eq_true_eq] at ha hb
        rw [ha, hb] at h
        exact absurd h AH
      · exact h

theorem VW {α : Type} {R : α → α → Prop} (ht : ∀ {x y z}, R x y → R y z → R x z) {l : List α} : l.Pairwise R ↔ ∀ (i : Nat) (a b : α), l[i]? = some a → l[i + 1]? = some b → R a b := by
  constructor
  · intro h i a b ha hb
    obtain ⟨h1, rfl⟩ := List.getElem?_eq_some_iff.1 ha
    obtain ⟨h2, rfl⟩ := List.getElem?_eq_some_iff.1 hb
    exact List.pairwise_iff_getElem.1 h i (i + 1) h1 h2 (by omega)
  · intro h
    refine List.pairwise_iff_getElem.2 fun i j hi hj hij => ?_
    obtain ⟨k, rfl⟩ : ∃ k, j = i + 1 + k := ⟨j - i - 1, by omega⟩
    clear hij
    induction k with
    | zero => exact h i _ _ (List.getElem?_eq_getElem hi) (List.getElem?_eq_getElem hj)
    | succ k ih => exact ht (ih (by omega)) (h (i + 1 + k) _ _ (List.getElem?_eq_getElem (by omega)) (List.getElem?_eq_getElem hj))

def JA (a b : List aB) : Int := if jP a && jP b then gX a b else 0

def yW (l : List aI) (i : Nat) : Bool := !(jP (l.getD i default).Row && !oA (-2) (jE (l.getD i default))) || (decide (i ≠ 0) && (decide (0 < JA (l.getD (i - 1) default).Row (l.getD i default).Row) || (decide (JA (l.getD (i - 1) default).Row (l.getD i default).Row = 0) && decide ((l.getD i default).At ≤ (l.getD (i - 1) default).At))))

theorem JE {l : List aI} : (List.range l.length).any (yW l) = false ↔ (∀ e ∈ l, jP e.Row = true ∧ oA (-2) (jE e) = false) ∧ l.Pairwise ltE := by
  rw [List.any_eq_false, VW (R := ltE) (fun h1 h2 => TY h1 h2)]
  constructor
  · intro h
    have h' : ∀ i, i < l.length → yW l i = false := fun i hi => by simpa using h i (List.mem_range.2 hi)
    refine ⟨fun e he => ?_, fun i a b ha hb => ?_⟩
    · obtain ⟨i, hi, rfl⟩ := List.mem_iff_getElem.1 he
      have := h' i hi
      unfold yW at this
      rw [Bool.or_eq_false_iff] at this
      have h1 := this.1
      simp only [List.getD_eq_getElem?_getD, List.getElem?_eq_getElem hi, Option.getD_some, Bool.not_eq_false', Bool.and_eq_true, Bool.not_eq_true'] at h1
      exact h1
    · obtain ⟨hi, rfl⟩ := List.getElem?_eq_some_iff.1 ha
      obtain ⟨hj, rfl⟩ := List.getElem?_eq_some_iff.1 hb
      have := h' (i + 1) hj
      have r1 := h' i hi
      unfold yW at this r1
      rw [Bool.or_eq_false_iff] at this r1
      have h1 := this.2
      have r2 := this.1
      have r1 := r1.1
      simp only [List.getD_eq_getElem?_getD, List.getElem?_eq_getElem hi, List.getElem?_eq_getElem hj, Option.getD_some, Bool.not_eq_false', Bool.and_eq_true, Bool.not_eq_true'] at r1 r2
      simp only [List.getD_eq_getElem?_getD, Nat.add_sub_cancel, List.getElem?_eq_getElem hi, List.getElem?_eq_getElem hj, Option.getD_some, ne_eq, Nat.add_eq_zero_iff, Nat.one_ne_zero, and_false, not_false_eq_true, decide_true, Bool.true_and, Bool.or_eq_false_iff, decide_eq_false_iff_not, Bool.and_eq_false_iff, JA, r1.1, r2.1, Bool.and_self, if_true] at h1
      by_cases hc : gX l[i].Row l[i + 1].Row = 0
      · refine .inr ⟨(qI.eq _ _).1 hc, ?_⟩
        rcases h1.2 with h | h
        · exact absurd hc h
        · omega
      · exact .inl (by omega)
  · rintro ⟨h1, h2⟩ i hi
    have hi := List.mem_range.1 hi
    unfold yW
    have ge : l.getD i default = l[i] := by simp [List.getD_eq_getElem?_getD, hi]
    have := h1 l[i] (List.getElem_mem hi)
    rw [ge, this.1, this.2]
    by_cases h0 : i = 0
    · simp [h0]
    · have hi' : i - 1 < l.length := by omega
      have ge' : l.getD (i - 1) default = l[i - 1] := by simp [List.getD_eq_getElem?_getD, hi']
      have h3 := h2 (i - 1) l[i - 1] l[i] (List.getElem?_eq_getElem hi') (by rw [show i - 1 + 1 = i by omega]; exact List.getElem?_eq_getElem hi)
      rw [ge']
      have r1 := (h1 l[i - 1] (List.getElem_mem hi')).1
      unfold JA
      rw [r1, this.1]
      rcases h3 with h3 | ⟨h3, h4⟩
      · have a : ¬ 0 < gX l[i - 1].Row l[i].Row := by omega
        have b : ¬ gX l[i - 1].Row l[i].Row = 0 := by omega
        simp [a, b]
      · have a : gX l[i - 1].Row l[i].Row = 0 := (qI.eq _ _).2 h3
        have b : ¬ l[i].At ≤ l[i - 1].At := by omega
        simp [a, b]

theorem HP {l : List aI} (hl : okL l) : rO l = some (mM l) := by
  unfold rO
  by_cases hn : l.length ≤ 4096
  · have h1 : decide ((4096 : Int) < ((l.length : Nat) : Int)) = false := by simp; omega
    rw [h1, cond_false]
    unfold vN
    have hlp := CJ (body := fun s => mX l s) (l := List.range l.length) (fun i => i) (yW l) (.inr false) (.inl ()) ?_ ?_
    · rw [hlp]
      cases hb : (List.range l.length).any (yW l)
      · obtain ⟨h2, h3⟩ := JE.1 hb
        have hr := GS hl (fun e he => (h2 e he).1) (by omega)
        simp only [Bool.false_eq_true, if_false, Option.bind_some, Sum.elim_inl, sR, hr, vG]
        have hrl := GO l
        rw [CJ (l := rowsOf l) (fun i => i) (fun r => decide (1024 < (fJ l r).length)) (.inr false) (.inl ()) ?_ ?_]
        · cases hc : (rowsOf l).any fun r => decide (1024 < (fJ l r).length)
          · have : mM l = true := BI.2 ⟨hn, h2, h3, fun r hr => by
              have := List.any_eq_false.1 hc r hr
              simp only [decide_eq_true_eq] at this; omega⟩
            rw [this]; rfl
          · have : mM l = false := by
              rw [Bool.eq_false_iff]
              intro hm
              obtain ⟨r, hr, h4⟩ := List.any_eq_true.1 hc
              have := (BI.1 hm).2.2.2 r hr
              simp only [decide_eq_true_eq] at h4; omega
            rw [this]; rfl
        · intro i r hi
          obtain ⟨d1, d2, d3, d4⟩ := idx hi (by omega)
          show oE _ _ _ = _
          simp only [oE, d1, cond_true, aK d2, d3, d4, ER hl (show l.length ≤ 1099511627776 by omega), Option.bind_some]
          by_cases h : 1024 < (fJ l r).length
          · have h' : (1024 : Int) < (((fJ l r).length : Nat) : Int) := by omega
            simp [h, h']
          · have h' : ¬ (1024 : Int) < (((fJ l r).length : Nat) : Int) := by omega
            simp [h, h']
        · show oE _ _ _ = _
          simp only [oE, iZ, cond_false]
      · have : mM l = false := by
          rw [Bool.eq_false_iff]
          intro hm
          obtain ⟨_, h2, h3, _⟩ := BI.1 hm
          have := JE.2 ⟨h2, h3⟩
          rw [this] at hb; cases hb
        rw [this]; rfl
    · intro i k hi
      obtain ⟨hi0, hk⟩ := List.getElem?_eq_some_iff.1 hi
      rw [List.getElem_range] at hk
      subst hk
      have hi1 : i < l.length := by simpa using hi0
      have hx := List.getElem?_eq_getElem hi1
      obtain ⟨d1, d2, d3, d4⟩ := idx hx (by omega)
      have hr := hl.2 _ (List.getElem_mem hi1)
      have ge : l.getD i default = l[i] := by simp [List.getD_eq_getElem?_getD, hi1]
      show mX _ _ = _
      simp only [mX, d1, cond_true, aK d2, d3, AW l[i].Row (by omega), Option.bind_some]
      rw [aK (fun _ => d2), aK (fun _ => d2)]
      have hm : pL [⟨l[i].At, l[i].Net⟩] = some (!oA (-2) (jE l[i])) := by
        rw [KG]
        simp only [mJ, chk, List.length_cons, List.length_nil, jE]
        cases oA (-2) ⟨l[i].At, l[i].Net⟩ <;> rfl
      rw [hm]
      unfold yW
      rw [ge]
      cases h2 : jP l[i].Row
      · simp [cX]
      · cases h3 : oA (-2) (jE l[i])
        · simp only [cX, Bool.not_true, Bool.not_false, cond_true, Option.bind_some, Bool.or_self, cond_false, Bool.and_self]
          by_cases h0 : i = 0
          · subst h0
            simp [pR, dG]
          · have hi' : i - 1 < l.length := by omega
            have hw : IntKind.i64.wrap ((i : Int) - 1) = ((i - 1 : Nat) : Int) := by rw [dG (by omega) (by omega)]; omega
            have hx' := List.getElem?_eq_getElem hi'
            obtain ⟨_, e2, e3, _⟩ := idx hx' (by omega)
            have ge' : l.getD (i - 1) default = l[i - 1] := by simp [List.getD_eq_getElem?_getD, hi']
            have hr' := hl.2 _ (List.getElem_mem hi')
            have hz : decide ((i : Int) = 0) = false := by simp; omega
            simp only [hz, cond_false, hw, aK e2, aK d2, e3, d3, ge']
            rw [BZ _ _ (by omega) (by omega), show (if (jP l[i - 1].Row && jP l[i].Row) = true then gX l[i - 1].Row l[i].Row else 0) = JA l[i - 1].Row l[i].Row from rfl]
            simp only [Option.bind_some, pR, d4]
            rw [aK (fun _ => e2), aK (fun _ => d2)]
            generalize JA l[i - 1].Row l[i].Row = c
            cases hz2 : (decide (0 < c) || (decide (c = 0) && decide (l[i].At ≤ l[i - 1].At)))
            · simp
            · simp [h0]
        · simp [cX]
    · show mX _ _ = _
      simp only [mX, List.length_range, iZ, cond_false]
  · have h1 : decide ((4096 : Int) < ((l.length : Nat) : Int)) = true := by simp; omega
    rw [h1, cond_true]
    simp [mM, hn]

end Go.Abs
namespace Go.Abs
open Go
theorem PL {c : Int} : ∀ {l : List Int} {m : Int}, c ≤ l.foldl mn m ↔ c ≤ m ∧ ∀ x ∈ l, c ≤ x
  | [], m => by simp
  | a :: l, m => by
    rw [List.foldl_cons, PL]
    unfold mn
    constructor
    · rintro ⟨h1, h2⟩
      have h3 : c ≤ m ∧ c ≤ a := by split at h1 <;> omega
      refine ⟨h3.1, fun x hx => ?_⟩
      rcases List.mem_cons.1 hx with rfl | hx
      · exact h3.2
      · exact h2 x hx
    · rintro ⟨h1, h2⟩
      have := h2 a (by simp)
      exact ⟨by split <;> omega, fun x hx => h2 x (by simp [hx])⟩

theorem JS {t : Int} : ∀ {f : List aM} {l v : Int}, sG l f → v + val f t = v ∨ v + val f t ∈ parts v f
  | [], l, v, _ => .inl (by simp [val])
  | j :: r, l, v, h => by
    unfold parts
    rw [lE]
    by_cases e : j.At ≤ t
    · rw [if_pos e]
      right
      rcases JS (t := t) (v := v + j.Net) h.2 with h1 | h1
      · rw [show v + (j.Net + val r t) = v + j.Net by omega]; simp
      · rw [show v + (j.Net + val r t) = v + j.Net + val r t by omega]; exact List.mem_cons_of_mem _ h1
    · left
      rw [if_neg e, h.2.xX (by omega)]; omega

theorem yT {f : List aM} (hf : mJ f = true) : 0 ≤ sH f ↔ ∀ t, 0 ≤ val f t := by
  have hr := (rV.1 hf).2
  unfold sH
  rw [PL]
  constructor
  · rintro ⟨_, h2⟩ t
    rcases JS (t := t) (v := 0) hr with h | h
    · omega
    · rw [parts_eq hr] at h
      obtain ⟨j, hj, h⟩ := List.mem_map.1 h
      have := h2 _ (List.mem_map.2 ⟨j, hj, rfl⟩)
      omega
  · intro h
    refine ⟨h _, fun x hx => ?_⟩
    obtain ⟨j, _, rfl⟩ := List.mem_map.1 hx
    exact h _

theorem AP {l : List aI} : oX l = true ↔ mM l = true ∧ ∀ r t, 0 ≤ val (fJ l r) t := by
  constructor
  · intro h
    unfold oX at h
    rw [Bool.and_eq_true, uS] at h
    obtain ⟨h1, h2, h3, _⟩ := h
    have hm : mM l = true := by
      unfold mM
      rw [Bool.and_eq_true]
      exact ⟨h1, uS.2 ⟨fun g hg => ⟨(h2 g hg).1, by have := (h2 g hg).2; unfold IF at this; rw [Bool.and_eq_true] at this; exact this.1⟩, h3, fun q hq => by cases hq⟩⟩
    refine ⟨hm, fun r => ?_⟩
    rw [← xC h3]
    rcases HO (groups l) r with ⟨e, _⟩ | ⟨g, hg, _, e⟩
    · rw [e]; intro t; simp [val]
    · rw [e]
      have := (h2 g hg).2
      unfold IF at this
      rw [Bool.and_eq_true, decide_eq_true_eq] at this
      exact (yT this.1).1 this.2
  · rintro ⟨hm, h⟩
    obtain ⟨h1, h2, h3⟩ := oO hm
    unfold oX
    rw [Bool.and_eq_true]
    refine ⟨by simpa using h1, uS.2 ⟨fun g hg => ⟨(h2 g hg).1, ?_⟩, h3, fun q hq => by cases hq⟩⟩
    unfold IF
    rw [Bool.and_eq_true, decide_eq_true_eq]
    refine ⟨(h2 g hg).2, (yT (h2 g hg).2).2 ?_⟩
    have : g.2 = fJ l g.1 := by rw [← xC h3, LG h3 hg]
    rw [this]; exact h g.1

theorem LX {l : List aI} {r : List aB} (h : r ∉ rowsOf l) : fJ l r = [] :=
  PB fun e he hr => h (GQ.2 ⟨e, he, hr⟩)

theorem NU {l : List aI} (hl : okL l) : rG l = some (oX l) := by
  unfold rG
  rw [HP hl]
  cases hm : mM l
  · have : oX l = false := by
      rw [Bool.eq_false_iff]; intro h
      rw [(AP.1 h).1] at hm; cases hm
    rw [this]; rfl
  · obtain ⟨h1, h2, _⟩ := BI.1 hm
    simp only [Option.bind_some, Bool.not_true, cond_false, GS hl (fun e he => (h2 e he).1) (show l.length ≤ 1099511627776 by omega), tG]
    have hrl := GO l
    rw [CJ (l := rowsOf l) (fun i => i) (fun r => decide (sH (fJ l r) < 0)) (.inr false) (.inl ()) ?_ ?_]
    · cases hc : (rowsOf l).any fun r => decide (sH (fJ l r) < 0)
      · have : oX l = true := AP.2 ⟨hm, fun r => by
          by_cases hr : r ∈ rowsOf l
          · have := List.any_eq_false.1 hc r hr
            simp only [decide_eq_true_eq] at this
            exact (yT (xM hm r)).1 (by omega)
          · rw [LX hr]; intro t; simp [val]⟩
        rw [this]; rfl
      · have : oX l = false := by
          rw [Bool.eq_false_iff]; intro h
          obtain ⟨r, _, hr⟩ := List.any_eq_true.1 hc
          simp only [decide_eq_true_eq] at hr
          have := (yT (xM hm r)).2 ((AP.1 h).2 r)
          omega
        rw [this]; rfl
    · intro i r hi
      obtain ⟨d1, d2, d3, d4⟩ := idx hi (by omega)
      show mN _ _ _ = _
      simp only [mN, d1, cond_true, aK d2, d3, d4, ER hl (show l.length ≤ 1099511627776 by omega), Option.bind_some, OC, xM hm r, if_true]
      by_cases h : sH (fJ l r) < 0 <;> simp [h]
    · show mN _ _ _ = _
      simp only [mN, iZ, cond_false]

end Go.Abs
namespace Go.Abs
open Go
abbrev gN (d : List Int) (i : Nat) : Int := d.getD i default

def swp (d : List Int) (i j : Nat) : List Int := (d.set i (gN d j)).set j (gN d i)

theorem UN {d : List Int} {i k : Nat} {x : Int} (h : i < d.length) : gN (d.set i x) k = if k = i then x else gN d k := by
  simp only [gN, List.getD_eq_getElem?_getD, List.getElem?_set]
  by_cases e : i = k
  · subst e; simp [h]
  · rw [if_neg e, if_neg (fun h => e h.symm)]

theorem gL (d : List Int) (i j : Nat) : (swp d i j).length = d.length := by simp [swp]

theorem rR {d : List Int} {i j : Nat} (hi : i < d.length) (hj : j < d.length) (k : Nat) : gN (swp d i j) k = if k = j then gN d i else if k = i then gN d j else gN d k := by
  unfold swp
  rw [UN (by simpa using hj), UN hi]

theorem VV {d : List Int} {i j : Nat} (hi : i < d.length) (hj : j < d.length) : (swp d i j).Perm d := by
  have h1 : gN d i = d[i] := by simp [gN, List.getD_eq_getElem?_getD, List.getElem?_eq_getElem hi]
  have h2 : gN d j = d[j] := by simp [gN, List.getD_eq_getElem?_getD, List.getElem?_eq_getElem hj]
  unfold swp
  rw [h1, h2]
  exact List.set_set_perm hi hj

structure Rel (a b : Nat) (d d' : List Int) : Prop where
  len : d'.length = d.length
  perm : d'.Perm d
  out : ∀ k, k < a ∨ b ≤ k → gN d' k = gN d k
  src : ∀ k, a ≤ k → k < b → ∃ k', a ≤ k' ∧ k' < b ∧ gN d' k = gN d k'

theorem Rel.refl (a b : Nat) (d : List Int) : Rel a b d d := ⟨rfl, .refl _, fun _ _ => rfl, fun k h1 h2 => ⟨k, h1, h2, rfl⟩⟩

theorem Rel.trans {a b : Nat} {d d' d'' : List Int} (h : Rel a b d d') (h' : Rel a b d' d'') : Rel a b d d'' :=
  ⟨h'.len.trans h.len, h'.perm.trans h.perm, fun k hk => (h'.out k hk).trans (h.out k hk), fun k h1 h2 => by
    obtain ⟨k1, a1, a2, a3⟩ := h'.src k h1 h2
    obtain ⟨k2, b1, b2, b3⟩ := h.src k1 a1 a2
    exact ⟨k2, b1, b2, a3.trans b3⟩⟩

theorem Rel.mono {a b a' b' : Nat} {d d' : List Int} (h : Rel a b d d') (h1 : a' ≤ a) (h2 : b ≤ b') : Rel a' b' d d' :=
  ⟨h.len, h.perm, fun k hk => h.out k (by omega), fun k k1 k2 => by
    by_cases hk : a ≤ k ∧ k < b
    · obtain ⟨k', c1, c2, c3⟩ := h.src k hk.1 hk.2
      exact ⟨k', by omega, by omega, c3⟩
    · exact ⟨k, k1, k2, h.out k (by omega)⟩⟩

theorem Rel.swp {a b : Nat} {d : List Int} {i j : Nat} (hi : i < d.length) (hj : j < d.length) (h1 : a ≤ i ∧ i < b) (h2 : a ≤ j ∧ j < b) : Rel a b d (swp d i j) :=
  ⟨gL .., VV hi hj, fun k hk => by rw [rR hi hj, if_neg (by omega), if_neg (by omega)], fun k k1 k2 => by
    rw [rR hi hj]
    split
    · exact ⟨i, h1.1, h1.2, rfl⟩
    · split
      · exact ⟨j, h2.1, h2.2, rfl⟩
      · exact ⟨k, k1, k2, rfl⟩⟩

theorem Rel.all {a b : Nat} {d d' : List Int} (h : Rel a b d d') {p : Int → Prop} (hp : ∀ k, a ≤ k → k < b → p (gN d k)) : ∀ k, a ≤ k → k < b → p (gN d' k) := fun k k1 k2 => by
  obtain ⟨k', c1, c2, c3⟩ := h.src k k1 k2
  rw [c3]; exact hp k' c1 c2

def oK (a b : Nat) (d : List Int) : Prop := ∀ p q, a ≤ p → p ≤ q → q < b → gN d p ≤ gN d q

theorem qT (a b : Int) : cP a b = some (decide (a < b)) := by simp [cP, jX, cX]

theorem wrN {x : Int} {n : Nat} (h : x = (n : Int)) (hn : n ≤ 9000000000000000000) : IntKind.i64.wrap x = (n : Int) := by
  rw [dG (by omega) (by omega), h]

theorem asN {i n : Nat} (h : i < n) : 0 ≤ (i : Int) ∧ (i : Int) < ((n : Nat) : Int) := by omega

theorem LU {a b i : Int} {d : List Int} {lo j : Nat} (ha : a = (lo : Nat)) (h1 : lo ≤ j) (hj : j < d.length) (hl : d.length < 4611686018427387904) :
    eR a b i d (j : Nat) = if lo < j ∧ gN d j < gN d (j - 1) then some (.inl (swp d j (j - 1), ((j - 1 : Nat) : Int))) else some (.inr d) := by
  subst ha
  unfold eR
  by_cases h : lo < j
  · have e1 : IntKind.i64.wrap ((j : Int) - 1) = ((j - 1 : Nat) : Int) := wrN (by omega) (by omega)
    have d1 : decide (((lo : Nat) : Int) < ((j : Nat) : Int)) = true := by simp; omega
    rw [e1, d1]
    simp only [true_and, Int.toNat_natCast, qT, cX, cond_true, Option.bind_some, Bool.true_and]
    rw [aK fun _ => asN hj, aK fun _ => asN (by omega)]
    by_cases h2 : gN d j < gN d (j - 1)
    · rw [if_pos ⟨h, h2⟩]
      simp only [gN] at h2
      simp only [h2, decide_true, cond_true]
      rw [aK (asN (by omega)), aK (asN hj), aK (asN hj), aK (asN (by omega))]
      rfl
    · rw [if_neg (fun hh => h2 hh.2)]
      simp only [gN] at h2
      simp only [h2, decide_false, cond_false]
  · have d1 : decide (((lo : Nat) : Int) < ((j : Nat) : Int)) = false := by simp; omega
    rw [if_neg (fun hh => h hh.1), d1]
    simp only [Bool.false_eq_true, false_implies, cX, cond_false, Option.bind_some, Bool.false_and]
    rw [aK trivial, aK trivial]

structure CG (a j i : Nat) (d : List Int) : Prop where
  oth : ∀ p q, a ≤ p → p ≤ q → q ≤ i → p ≠ j → q ≠ j → gN d p ≤ gN d q
  up : ∀ q, j < q → q ≤ i → gN d j ≤ gN d q

theorem CG.done {a j i : Nat} {d : List Int} (h : CG a j i d) (hj : a ≤ j) (hn : ¬ (a < j ∧ gN d j < gN d (j - 1))) : oK a (i + 1) d := by
  intro p q h1 h2 h3
  by_cases hp : p = j
  · by_cases hq : q = j
    · subst hp; subst hq; exact Int.le_refl _
    · subst hp; exact h.up q (by omega) (by omega)
  · by_cases hq : q = j
    · subst hq
      have h4 : ¬ gN d q < gN d (q - 1) := fun hh => hn ⟨by omega, hh⟩
      have := h.oth p (q - 1) h1 (by omega) (by omega) hp (by omega)
      omega
    · exact h.oth p q h1 h2 (by omega) hp hq

theorem CG.next {a j i : Nat} {d : List Int} (h : CG a j i d) (hj : a < j) (hji : j ≤ i) (hi : i < d.length) (hlt : gN d j < gN d (j - 1)) : CG a (j - 1) i (swp d j (j - 1)) := by
  have g := rR (d := d) (i := j) (j := j - 1) (by omega) (by omega)
  refine ⟨fun p q h1 h2 h3 hp hq => ?_, fun q h1 h2 => ?_⟩
  · rw [g, g, if_neg hp, if_neg hq]
    by_cases hpj : p = j
    · rw [if_pos hpj]
      by_cases hqj : q = j
      · rw [if_pos hqj]; exact Int.le_refl _
      · rw [if_neg hqj]; exact h.oth (j - 1) q (by omega) (by omega) h3 (by omega) hqj
    · rw [if_neg hpj]
      by_cases hqj : q = j
      · rw [if_pos hqj]; exact h.oth p (j - 1) h1 (by omega) (by omega) hpj (by omega)
      · rw [if_neg hqj]; exact h.oth p q h1 h2 h3 hpj hqj
  · rw [g, g, if_pos rfl, if_neg (by omega)]
    by_cases hqj : q = j
    · rw [if_pos hqj]; omega
    · rw [if_neg hqj]; exact h.up q (by omega) h2

theorem ZG {a b i : Int} {lo hi : Nat} (ha : a = (lo : Nat)) : ∀ (j : Nat) (d : List Int), lo ≤ j → j ≤ hi → hi < d.length → d.length < 4611686018427387904 → CG lo j hi d →
    ∃ d', lp (fun s : List Int × Int => eR a b i s.1 s.2) (d, (j : Int)) = some d' ∧ Rel lo (hi + 1) d d' ∧ oK lo (hi + 1) d' := by
  intro j
  induction j with
  | zero =>
    intro d h1 h2 h3 h4 h5
    have hs := LU (a := a) (b := b) (i := i) ha h1 (by omega) h4 (d := d)
    rw [if_neg (by omega)] at hs
    exact ⟨d, cO hs, Rel.refl .., h5.done h1 (by omega)⟩
  | succ j ih =>
    intro d h1 h2 h3 h4 h5
    have hs := LU (a := a) (b := b) (i := i) ha h1 (by omega) h4 (d := d)
    by_cases h : lo < j + 1 ∧ gN d (j + 1) < gN d (j + 1 - 1)
    · rw [if_pos h] at hs
      obtain ⟨d', e, r, s⟩ := ih (swp d (j + 1) (j + 1 - 1)) (by omega) (by omega) (by rw [gL]; omega) (by rw [gL]; omega) (h5.next h.1 h2 h3 h.2)
      exact ⟨d', (fI hs).trans e, (Rel.swp (by omega) (by omega) (by omega) (by omega)).trans r, s⟩
    · rw [if_neg h] at hs
      exact ⟨d, cO hs, Rel.refl .., h5.done h1 h⟩

theorem OE {a b : Int} {lo hi : Nat} (ha : a = (lo : Nat)) (hb : b = (hi : Nat)) : ∀ (n i : Nat) (d : List Int), hi - i = n → lo < i → hi ≤ d.length → d.length < 4611686018427387904 → oK lo i d → (i ≤ hi ∨ hi ≤ i) →
    ∃ d', lp (fun s : List Int × Int => dF a b s.1 s.2) (d, (i : Int)) = some d' ∧ Rel lo hi d d' ∧ oK lo hi d' := by
  intro n
  induction n with
  | zero =>
    intro i d h1 h2 h3 h4 h5 _
    refine ⟨d, cO ?_, Rel.refl .., fun p q p1 p2 p3 => h5 p q p1 p2 (by omega)⟩
    show dF _ _ _ _ = _
    have : decide (((i : Nat) : Int) < b) = false := by simp; omega
    simp only [dF, this, cond_false]
  | succ n ih =>
    intro i d h1 h2 h3 h4 h5 _
    obtain ⟨d1, e, r, s⟩ := ZG (a := a) (b := b) (i := (i : Int)) (hi := i) ha i d (by omega) (Nat.le_refl _) (by omega) h4 ⟨fun p q p1 p2 p3 p4 p5 => h5 p q p1 p2 (by omega), fun q q1 q2 => by omega⟩
    obtain ⟨d2, e2, r2, s2⟩ := ih (i + 1) d1 (by omega) (by omega) (by rw [r.len]; exact h3) (by rw [r.len]; exact h4) s (by omega)
    refine ⟨d2, ?_, (r.mono (Nat.le_refl _) (by omega)).trans r2, s2⟩
    rw [fI (s' := (d1, ((i + 1 : Nat) : Int))) ?_, e2]
    show dF _ _ _ _ = _
    have : decide (((i : Nat) : Int) < b) = true := by simp; omega
    simp only [dF, this, cond_true, iR]
    rw [e]
    simp only [Option.bind_some, fW]
    rw [wrN (n := i + 1) (by omega) (by omega)]

theorem FJ (lo : Nat) (d : List Int) : oK lo (lo + 1) d := fun p q p1 p2 p3 => by
  have : p = q := by omega
  subst this
  exact Int.le_refl _

theorem WE {lo hi : Nat} {d : List Int} (h3 : hi ≤ d.length) (h4 : d.length < 4611686018427387904) (h0 : lo ≤ hi) : ∃ d', gF d (lo : Int) (hi : Int) = some d' ∧ Rel lo hi d d' ∧ oK lo hi d' := by
  unfold gF iS
  obtain ⟨d', e, r, s⟩ := OE (a := (lo : Int)) (b := (hi : Int)) (lo := lo) (hi := hi) rfl rfl (hi - (lo + 1)) (lo + 1) d rfl (by omega) h3 h4 (FJ lo d) (by omega)
  rw [wrN (n := lo + 1) (by omega) (by omega), e]
  exact ⟨d', rfl, r, s⟩

theorem ZR {lo hi : Nat} : ∀ (n i j : Nat) (d : List Int), j + 1 - i = n → lo ≤ i → j + 1 ≤ hi ∨ j ≤ i → hi ≤ d.length → d.length < 4611686018427387904 → i < 4611686018427387904 → j < 4611686018427387904 →
    ∃ d', lp (fun s : List Int × Int × Int => dJ s.1 s.2.1 s.2.2) (d, (i : Int), (j : Int)) = some d' ∧ Rel lo hi d d' := by
  intro n
  induction n using Nat.strongRecOn with
  | ind n ih =>
    intro i j d h1 h2 h3 h4 h5 h6 h7
    by_cases h : i < j
    · obtain ⟨d', e, r⟩ := ih (j - 1 + 1 - (i + 1)) (by omega) (i + 1) (j - 1) (swp d i j) rfl (by omega) (by omega) (by rw [gL]; exact h4) (by rw [gL]; exact h5) (by omega) (by omega)
      refine ⟨d', ?_, (Rel.swp (by omega) (by omega) (by omega) (by omega)).trans r⟩
      rw [fI (s' := (swp d i j, ((i + 1 : Nat) : Int), ((j - 1 : Nat) : Int))) ?_, e]
      show dJ _ _ _ = _
      have : decide (((i : Nat) : Int) < ((j : Nat) : Int)) = true := by simp; omega
      simp only [dJ, this, cond_true, Int.toNat_natCast]
      rw [aK (asN (by omega)), aK (asN (by omega)), aK (asN (by omega)), aK (asN (by omega)), wrN (n := i + 1) (by omega) (by omega), wrN (n := j - 1) (by omega) (by omega)]
      rfl
    · refine ⟨d, cO ?_, Rel.refl ..⟩
      show dJ _ _ _ = _
      have : decide (((i : Nat) : Int) < ((j : Nat) : Int)) = false := by simp; omega
      simp only [dJ, this, cond_false]

theorem TF {lo hi : Nat} {d : List Int} (h0 : lo < hi) (h3 : hi ≤ d.length) (h4 : d.length < 4611686018427387904) : ∃ d', gP d (lo : Int) (hi : Int) = some d' ∧ Rel lo hi d d' := by
  unfold gP jC
  obtain ⟨d', e, r⟩ := ZR (lo := lo) (hi := hi) (hi - 1 + 1 - lo) lo (hi - 1) d rfl (Nat.le_refl _) (by omega) h3 h4 (by omega) (by omega)
  rw [wrN (n := hi - 1) (by omega) (by omega), e]
  exact ⟨d', rfl, r⟩

end Go.Abs
namespace Go.Abs
open Go
def vJ (f hi : Nat) (d : List Int) (r : Nat) : Nat := if 2 * r + 2 < hi ∧ gN d (f + (2 * r + 1)) < gN d (f + (2 * r + 2)) then 2 * r + 2 else 2 * r + 1

theorem IZ {f hi r c : Nat} {d : List Int} (hf : f + hi ≤ d.length) (hr : r < hi) (hc : c < hi) (hl : d.length < 2305843009213693951) :
    fY d (hi : Nat) (f : Nat) (r : Nat) (c : Nat) = if gN d (f + r) < gN d (f + c) then some (.inl (swp d (f + r) (f + c), (c : Int))) else some (.inr (.inr d)) := by
  unfold fY
  have e1 : IntKind.i64.wrap ((f : Int) + (r : Int)) = ((f + r : Nat) : Int) := wrN (by omega) (by omega)
  have e2 : IntKind.i64.wrap ((f : Int) + (c : Int)) = ((f + c : Nat) : Int) := wrN (by omega) (by omega)
  rw [e1, e2]
  simp only [Int.toNat_natCast, qT, Option.bind_some]
  rw [aK (asN (by omega)), aK (asN (by omega))]
  by_cases h : gN d (f + r) < gN d (f + c)
  · rw [if_pos h]
    simp only [gN] at h
    simp only [h, decide_true, Bool.not_true, cond_false]
    rw [aK (asN (by omega)), aK (asN (by omega)), aK (asN (by omega)), aK (asN (by omega))]
    rfl
  · rw [if_neg h]
    simp only [gN] at h
    simp only [h, decide_false, Bool.not_false, cond_true]

theorem UY {f hi r : Nat} {d : List Int} (hf : f + hi ≤ d.length) (hr : r < hi) (hl : d.length < 2305843009213693951) :
    cY (hi : Nat) (f : Nat) d (r : Nat) = if hi ≤ 2 * r + 1 then some (.inr (.inl d)) else if gN d (f + r) < gN d (f + vJ f hi d r) then some (.inl (swp d (f + r) (f + vJ f hi d r), (vJ f hi d r : Int))) else some (.inr (.inr d)) := by
  unfold cY
  have e1 : IntKind.i64.wrap (IntKind.i64.wrap ((2 : Int) * (r : Int)) + 1) = ((2 * r + 1 : Nat) : Int) := by
    rw [wrN (x := (2 : Int) * (r : Int)) (n := 2 * r) (by omega) (by omega)]; exact wrN (by omega) (by omega)
  have e2 : IntKind.i64.wrap (((2 * r + 1 : Nat) : Int) + 1) = ((2 * r + 2 : Nat) : Int) := wrN (by omega) (by omega)
  simp only [e1, e2]
  by_cases h : hi ≤ 2 * r + 1
  · rw [if_pos h]
    have : decide (((hi : Nat) : Int) ≤ ((2 * r + 1 : Nat) : Int)) = true := by simp; omega
    rw [this, cond_true]
  · rw [if_neg h]
    have d1 : decide (((hi : Nat) : Int) ≤ ((2 * r + 1 : Nat) : Int)) = false := by simp; omega
    rw [d1, cond_false]
    by_cases h2 : 2 * r + 2 < hi
    · have d2 : decide (((2 * r + 2 : Nat) : Int) < ((hi : Nat) : Int)) = true := by simp; omega
      have e3 : IntKind.i64.wrap ((f : Int) + ((2 * r + 1 : Nat) : Int)) = ((f + (2 * r + 1) : Nat) : Int) := wrN (by omega) (by omega)
      have e4 : IntKind.i64.wrap (((f + (2 * r + 1) : Nat) : Int) + 1) = ((f + (2 * r + 2) : Nat) : Int) := wrN (by omega) (by omega)
      simp only [d2, e3, e4, Int.toNat_natCast, qT, cX, cond_true, Option.bind_some, Bool.true_and]
      rw [aK fun _ => asN (by omega), aK fun _ => asN (by omega)]
      by_cases h3 : gN d (f + (2 * r + 1)) < gN d (f + (2 * r + 2))
      · have hb : vJ f hi d r = 2 * r + 2 := if_pos ⟨h2, h3⟩
        simp only [gN] at h3
        simp only [h3, decide_true, cond_true]
        rw [IZ hf hr h2 hl, hb]
      · have hb : vJ f hi d r = 2 * r + 1 := if_neg fun hh => h3 hh.2
        simp only [gN] at h3
        simp only [h3, decide_false, cond_false]
        rw [IZ hf hr (by omega) hl, hb]
    · have d2 : decide (((2 * r + 2 : Nat) : Int) < ((hi : Nat) : Int)) = false := by simp; omega
      have hb : vJ f hi d r = 2 * r + 1 := if_neg fun hh => h2 hh.1
      simp only [d2, Bool.false_eq_true, false_implies, cX, cond_false, Option.bind_some, Bool.false_and]
      rw [aK trivial, aK trivial, IZ hf hr (by omega) hl, hb]

def chd (c p : Nat) : Prop := c = 2 * p + 1 ∨ c = 2 * p + 2

def Hp (f lo hi : Nat) (d : List Int) : Prop := ∀ i c, lo ≤ i → chd c i → c < hi → gN d (f + c) ≤ gN d (f + i)

structure HpX (f lo hi r : Nat) (d : List Int) : Prop where
  oth : ∀ i c, lo ≤ i → i ≠ r → chd c i → c < hi → gN d (f + c) ≤ gN d (f + i)
  up : ∀ p c, lo ≤ p → chd r p → chd c r → c < hi → gN d (f + c) ≤ gN d (f + p)

theorem TE {f hi r : Nat} {d : List Int} (h : ¬ hi ≤ 2 * r + 1) : chd (vJ f hi d r) r ∧ vJ f hi d r < hi ∧ ∀ c, chd c r → c < hi → gN d (f + c) ≤ gN d (f + vJ f hi d r) := by
  unfold vJ
  split
  · rename_i h1
    refine ⟨.inr rfl, h1.1, fun c hc hlt => ?_⟩
    rcases hc with rfl | rfl
    · omega
    · exact Int.le_refl _
  · rename_i h1
    refine ⟨.inl rfl, by omega, fun c hc hlt => ?_⟩
    rcases hc with rfl | rfl
    · exact Int.le_refl _
    · have : ¬ gN d (f + (2 * r + 1)) < gN d (f + (2 * r + 2)) := fun hh => h1 ⟨hlt, hh⟩
      omega

theorem HpX.done {f lo hi r : Nat} {d : List Int} (h : HpX f lo hi r d) (hr : ∀ c, chd c r → c < hi → gN d (f + c) ≤ gN d (f + r)) : Hp f lo hi d := by
  intro i c h1 h2 h3
  by_cases e : i = r
  · subst e; exact hr c h2 h3
  · exact h.oth i c h1 e h2 h3

theorem HpX.next {f lo hi r c : Nat} {d : List Int} (h : HpX f lo hi r d) (hf : f + hi ≤ d.length) (hlo : lo ≤ r) (hrh : r < hi) (hc : chd c r) (hch : c < hi) (hbig : ∀ k, chd k r → k < hi → gN d (f + k) ≤ gN d (f + c)) (hlt : gN d (f + r) < gN d (f + c)) : HpX f lo hi c (swp d (f + r) (f + c)) := by
  have g := rR (d := d) (i := f + r) (j := f + c) (by omega) (by omega)
  have hcr : r < c := by unfold chd at hc; omega
  refine ⟨fun i k h1 h2 h3 h4 => ?_, fun p k h1 h2 h3 h4 => ?_⟩
  · rw [g, g, if_neg (show ¬ f + i = f + c by omega)]
    by_cases hir : i = r
    · subst hir
      rw [if_pos (show f + i = f + i from rfl)]
      by_cases hkc : k = c
      · subst hkc; rw [if_pos rfl]; omega
      · rw [if_neg (by omega), if_neg (by unfold chd at h3; omega)]
        exact hbig k h3 h4
    · rw [if_neg (show ¬ f + i = f + r by omega)]
      have hkc : k ≠ c := by intro e; subst e; unfold chd at h3 hc; omega
      rw [if_neg (by omega)]
      by_cases hkr : k = r
      · subst hkr
        rw [if_pos rfl]
        exact h.up i c h1 h3 hc hch
      · rw [if_neg (by omega)]
        exact h.oth i k h1 hir h3 h4
  · have hp : p = r := by unfold chd at h2 hc; omega
    subst hp
    have hk : c < k := by unfold chd at h3; omega
    rw [g, g, if_neg (by omega), if_neg (by omega), if_neg (by omega), if_pos rfl]
    exact h.oth c k (by omega) (by omega) h3 h4

theorem XZ {f lo hi : Nat} : ∀ (n r : Nat) (d : List Int), hi - r = n → f + hi ≤ d.length → lo ≤ r → r < hi → d.length < 2305843009213693951 → HpX f lo hi r d →
    ∃ d', (lp (fun s : List Int × Int => cY (hi : Nat) (f : Nat) s.1 s.2) (d, (r : Int)) = some (.inl d') ∨ lp (fun s : List Int × Int => cY (hi : Nat) (f : Nat) s.1 s.2) (d, (r : Int)) = some (.inr d')) ∧ Rel f (f + hi) d d' ∧ Hp f lo hi d' := by
  intro n
  induction n using Nat.strongRecOn with
  | ind n ih =>
    intro r d h1 h2 h3 h4 h5 h6
    have hs := UY h2 h4 h5
    by_cases h : hi ≤ 2 * r + 1
    · rw [if_pos h] at hs
      exact ⟨d, .inl (cO hs), Rel.refl .., h6.done fun c hc hlt => by unfold chd at hc; omega⟩
    · rw [if_neg h] at hs
      obtain ⟨b1, b2, b3⟩ := TE (f := f) (d := d) h
      by_cases hlt : gN d (f + r) < gN d (f + vJ f hi d r)
      · rw [if_pos hlt] at hs
        have hb : r < vJ f hi d r := by unfold chd at b1; omega
        obtain ⟨d', e, rl, hp⟩ := ih (hi - vJ f hi d r) (by omega) (vJ f hi d r) _ rfl (by rw [gL]; exact h2) (by omega) b2 (by rw [gL]; exact h5) (h6.next h2 h3 h4 b1 b2 b3 hlt)
        exact ⟨d', e.imp (fun e => (fI hs).trans e) (fun e => (fI hs).trans e), (Rel.swp (by omega) (by omega) (by omega) (by omega)).trans rl, hp⟩
      · rw [if_neg hlt] at hs
        exact ⟨d, .inr (cO hs), Rel.refl .., h6.done fun c hc hc2 => by have := b3 c hc hc2; omega⟩

theorem QA {f lo hi : Nat} {d : List Int} (h2 : f + hi ≤ d.length) (h5 : d.length < 2305843009213693951) (hlo : lo < 2305843009213693951) (h6 : HpX f lo hi lo d) :
    ∃ d', eY d (lo : Nat) (hi : Nat) (f : Nat) = some d' ∧ Rel f (f + hi) d d' ∧ Hp f lo hi d' := by
  unfold eY kE
  by_cases h : lo < hi
  · obtain ⟨d', e, r, p⟩ := XZ (hi - lo) lo d rfl h2 (Nat.le_refl _) h h5 h6
    rcases e with e | e <;> rw [e] <;> exact ⟨d', rfl, r, p⟩
  · refine ⟨d, ?_, Rel.refl .., fun i c h1 hc hlt => by unfold chd at hc; omega⟩
    have hs : cY (hi : Nat) (f : Nat) d (lo : Nat) = some (.inr (.inl d)) := by
      unfold cY
      have e1 : IntKind.i64.wrap (IntKind.i64.wrap ((2 : Int) * (lo : Int)) + 1) = ((2 * lo + 1 : Nat) : Int) := by
        rw [wrN (x := (2 : Int) * (lo : Int)) (n := 2 * lo) (by omega) (by omega)]; exact wrN (by omega) (by omega)
      have : decide (((hi : Nat) : Int) ≤ ((2 * lo + 1 : Nat) : Int)) = true := by simp; omega
      simp only [e1, this, cond_true]
    rw [cO (show (fun s : List Int × Int => cY (hi : Nat) (f : Nat) s.1 s.2) (d, (lo : Int)) = _ from hs)]
    rfl

theorem TA {f k : Nat} {d : List Int} (h : Hp f 0 k d) : ∀ i, i < k → gN d (f + i) ≤ gN d f := by
  intro i
  induction i using Nat.strongRecOn with
  | ind i ih =>
    intro hi
    by_cases h0 : i = 0
    · subst h0; exact Int.le_refl _
    · have h1 := h ((i - 1) / 2) i (Nat.zero_le _) (by unfold chd; omega) hi
      have h2 := ih ((i - 1) / 2) (by omega) (by omega)
      omega

theorem QD {f hi : Nat} : ∀ (k : Nat) (d : List Int), f + hi ≤ d.length → k < 2305843009213693951 → d.length < 2305843009213693951 → Hp f k hi d →
    ∃ d', lp (fun s : List Int × Int => dX (f : Nat) 0 (hi : Nat) s.1 s.2) (d, (k : Int) - 1) = some d' ∧ Rel f (f + hi) d d' ∧ Hp f 0 hi d'
  | 0, d, _, _, _, h => by
    refine ⟨d, cO ?_, Rel.refl .., h⟩
    show dX _ _ _ _ _ = _
    have : decide ((0 : Int) ≤ ((0 : Nat) : Int) - 1) = false := by simp
    simp only [dX, this, cond_false]
  | k + 1, d, h1, h2, h3, h => by
    obtain ⟨d1, e, r, p⟩ := QA (f := f) (lo := k) (hi := hi) h1 h3 (by omega) ⟨fun i c a1 a2 a3 a4 => h i c (by omega) a3 a4, fun p c a1 a2 => by unfold chd at a2; omega⟩
    obtain ⟨d2, e2, r2, p2⟩ := QD (f := f) (hi := hi) k d1 (by rw [r.len]; exact h1) (by omega) (by rw [r.len]; exact h3) p
    refine ⟨d2, ?_, r.trans r2, p2⟩
    rw [fI (s' := (d1, (k : Int) - 1)) ?_, e2]
    show dX _ _ _ _ _ = _
    have g1 : (((k + 1 : Nat) : Int) - 1) = (k : Int) := by omega
    have g2 : decide ((0 : Int) ≤ (k : Int)) = true := by simp
    simp only [dX, g1, g2, cond_true, e, Option.bind_some]
    rw [dG (by omega) (by omega)]

theorem UM {f n : Nat} : ∀ (k : Nat) (d : List Int), k ≤ n → f + n ≤ d.length → d.length < 2305843009213693951 → Hp f 0 k d → oK (f + k) (f + n) d → (∀ p q, f ≤ p → p < f + k → f + k ≤ q → q < f + n → gN d p ≤ gN d q) →
    ∃ d', lp (fun s : List Int × Int => dW (f : Nat) 0 s.1 s.2) (d, (k : Int) - 1) = some d' ∧ Rel f (f + n) d d' ∧ oK f (f + n) d'
  | 0, d, _, _, _, _, hs, _ => by
    refine ⟨d, cO ?_, Rel.refl .., hs⟩
    show dW _ _ _ _ = _
    have : decide ((0 : Int) ≤ ((0 : Nat) : Int) - 1) = false := by simp
    simp only [dW, this, cond_false]
  | k + 1, d, h1, h2, h3, h, hs, hb => by
    have g := rR (d := d) (i := f) (j := f + k) (by omega) (by omega)
    have hroot := TA h
    obtain ⟨d1, e, r, p⟩ := QA (f := f) (lo := 0) (hi := k) (d := swp d f (f + k)) (by rw [gL]; omega) (by rw [gL]; exact h3) (by omega) ⟨fun i c a1 a2 a3 a4 => by
      rw [g, g, if_neg (by unfold chd at a3; omega), if_neg (by unfold chd at a3; omega), if_neg (by unfold chd at a3; omega), if_neg (by omega)]
      exact h i c (by omega) a3 (by omega), fun p c a1 a2 => by unfold chd at a2; omega⟩
    have rs : Rel f (f + n) d (swp d f (f + k)) := Rel.swp (i := f) (j := f + k) (by omega) (by omega) (by omega) (by omega)
    have top : gN d1 (f + k) = gN d f := by rw [r.out _ (by omega), g, if_pos rfl]
    have tail : ∀ q, f + k < q → gN d1 q = gN d q := fun q hq => by rw [r.out _ (by omega), g, if_neg (by omega), if_neg (by omega)]
    have low : ∀ p, f ≤ p → p < f + k → ∃ p', f ≤ p' ∧ p' < f + (k + 1) ∧ gN d1 p = gN d p' := fun p p1 p2 => by
      obtain ⟨p', a1, a2, a3⟩ := r.src p p1 p2
      rw [g, if_neg (by omega)] at a3
      by_cases hp : p' = f
      · rw [if_pos hp] at a3; exact ⟨f + k, by omega, by omega, a3⟩
      · rw [if_neg hp] at a3; exact ⟨p', a1, by omega, a3⟩
    obtain ⟨d2, e2, r2, s2⟩ := UM (f := f) (n := n) k d1 (by omega) (by rw [r.len, gL]; exact h2) (by rw [r.len, gL]; exact h3) p (fun p q p1 p2 p3 => by
      by_cases hq : q = f + k
      · have : p = f + k := by omega
        rw [hq, this]; exact Int.le_refl _
      · rw [tail q (by omega)]
        by_cases hp : p = f + k
        · rw [hp, top]; exact hb f q (Nat.le_refl _) (by omega) (by omega) p3
        · rw [tail p (by omega)]; exact hs p q (by omega) p2 p3) (fun p q p1 p2 p3 p4 => by
      obtain ⟨p', a1, a2, a3⟩ := low p p1 p2
      rw [a3]
      by_cases hq : q = f + k
      · rw [hq, top]
        have := hroot (p' - f) (by omega)
        rw [show f + (p' - f) = p' by omega] at this
        exact this
      · rw [tail q (by omega)]; exact hb p' q a1 a2 (by omega) p4)
    refine ⟨d2, ?_, (rs.trans (r.mono (Nat.le_refl _) (by omega))).trans r2, s2⟩
    rw [fI (s' := (d1, (k : Int) - 1)) ?_, e2]
    show dW _ _ _ _ = _
    have g1 : (((k + 1 : Nat) : Int) - 1) = (k : Int) := by omega
    have g2 : decide ((0 : Int) ≤ (k : Int)) = true := by simp
    have g3 : IntKind.i64.wrap ((f : Int) + (k : Int)) = ((f + k : Nat) : Int) := wrN (by omega) (by omega)
    simp only [dW, g1, g2, g3, cond_true, Int.toNat_natCast]
    rw [aK (asN (by omega)), aK (asN (by omega)), aK (asN (by omega)), aK (asN (by omega))]
    have e' : eY (List.set (List.set d f (List.getD d (f + k) default)) (f + k) (List.getD d f default)) 0 (k : Int) (f : Int) = some d1 := e
    rw [e']
    simp only [Option.bind_some]
    rw [dG (by omega) (by omega)]

theorem TJ {lo hi : Nat} {d : List Int} (h0 : lo < hi) (h1 : hi ≤ d.length) (h3 : d.length < 2305843009213693951) : ∃ d', iW d (lo : Int) (hi : Int) = some d' ∧ Rel lo hi d d' ∧ oK lo hi d' := by
  unfold iW
  rw [aK (by decide)]
  have e1 : IntKind.i64.wrap ((hi : Int) - (lo : Int)) = ((hi - lo : Nat) : Int) := wrN (by omega) (by omega)
  have e2 : IntKind.i64.wrap (((hi - lo : Nat) : Int) - 1) = ((hi - lo - 1 : Nat) : Int) := wrN (by omega) (by omega)
  have e3 : IntKind.i64.wrap (Int.tdiv ((hi - lo - 1 : Nat) : Int) 2) = (((hi - lo - 1) / 2 + 1 : Nat) : Int) - 1 := by
    have : Int.tdiv ((hi - lo - 1 : Nat) : Int) 2 = (((hi - lo - 1) / 2 : Nat) : Int) := by rw [Int.tdiv_eq_ediv_of_nonneg (by omega)]; omega
    rw [this, wrN (n := (hi - lo - 1) / 2) rfl (by omega)]; omega
  rw [e1, e2, e3]
  unfold kH
  obtain ⟨d1, a1, r1, p1⟩ := QD (f := lo) (hi := hi - lo) ((hi - lo - 1) / 2 + 1) d (by omega) (by omega) h3 (fun i c b1 b2 b3 => by unfold chd at b2; omega)
  rw [a1]
  simp only [Option.bind_some, iQ, kG]
  obtain ⟨d2, a2, r2, s2⟩ := UM (f := lo) (n := hi - lo) (hi - lo) d1 (Nat.le_refl _) (by rw [r1.len]; omega) (by rw [r1.len]; exact h3) p1 (fun p q b1 b2 b3 => by omega) (fun p q b1 b2 b3 b4 => by omega)
  have e4 : IntKind.i64.wrap (((hi - lo : Nat) : Int) - 1) = ((hi - lo : Nat) : Int) - 1 := dG (by omega) (by omega)
  rw [e4, a2]
  have : lo + (hi - lo) = hi := by omega
  rw [this] at r1 r2 s2
  exact ⟨d2, rfl, r1.trans r2, s2⟩

end Go.Abs
namespace Go.Abs
open Go
def FE : ByteArray := ⟨#[0, 1, 2, 2, 3, 3, 3, 3, 4, 4, 4, 4, 4, 4, 4, 4, 5, 5, 5, 5, 5, 5, 5, 5, 5, 5, 5, 5, 5, 5, 5, 5, 6, 6, 6, 6, 6, 6, 6, 6, 6, 6, 6, 6, 6, 6, 6, 6, 6, 6, 6, 6, 6, 6, 6, 6, 6, 6, 6, 6, 6, 6, 6, 6, 7, 7, 7, 7, 7, 7, 7, 7, 7, 7, 7, 7, 7, 7, 7, 7, 7, 7, 7, 7, 7, 7, 7, 7, 7, 7, 7, 7, 7, 7, 7, 7, 7, 7, 7, 7, 7, 7, 7, 7, 7, 7, 7, 7, 7, 7, 7, 7, 7, 7, 7, 7, 7, 7, 7, 7, 7, 7, 7, 7, 7, 7, 7, 7, 8, 8, 8, 8, 8, 8, 8, 8, 8, 8, 8, 8, 8, 8, 8, 8, 8, 8, 8, 8, 8, 8, 8, 8, 8, 8, 8, 8, 8, 8, 8, 8, 8, 8, 8, 8, 8, 8, 8, 8, 8, 8, 8, 8, 8, 8, 8, 8, 8, 8, 8, 8, 8, 8, 8, 8, 8, 8, 8, 8, 8, 8, 8, 8, 8, 8, 8, 8, 8, 8, 8, 8, 8, 8, 8, 8, 8, 8, 8, 8, 8, 8, 8, 8, 8, 8, 8, 8, 8, 8, 8, 8, 8, 8, 8, 8, 8, 8, 8, 8, 8, 8, 8, 8, 8, 8, 8, 8, 8, 8, 8, 8, 8, 8, 8, 8, 8, 8, 8, 8, 8, 8, 8, 8, 8, 8, 8, 8]⟩

theorem TX : ∀ i : Fin 256, i.val ≠ 0 → ∃ k : Fin 8, bt FE (i.val : Int) = (k.val : Int) + 1 ∧ 2 ^ k.val ≤ i.val := by decide +kernel

theorem JP : ByteArray.size FE = 256 := by decide +kernel

theorem XP {x : Int} (h : 0 ≤ x) (h2 : x ≤ 255) : IntKind.u8.wrap x = x := by
  simp only [IntKind.wrap, IntKind.bits, IntKind.signed]
  simp
  omega

theorem BY {x : Int} (h : 0 ≤ x) (h2 : x ≤ 9223372036854775807) : IntKind.u64.wrap x = x := by
  simp only [IntKind.wrap, IntKind.bits, IntKind.signed]
  simp
  omega

theorem UZ {x n : Int} (h1 : 1 ≤ x) (h2 : x ≤ 255) (hn : 0 ≤ n ∧ n ≤ 100) : ∃ k : Nat, lI x n = some (n + k + 1) ∧ k ≤ 7 ∧ (2 : Int) ^ k ≤ x := by
  obtain ⟨k, e, hk⟩ := TX ⟨x.toNat, by omega⟩ (by simp; omega)
  refine ⟨k.val, ?_, by omega, ?_⟩
  · show (aY (0 ≤ (IntKind.u8.wrap x) ∧ (IntKind.u8.wrap x) < ((ByteArray.size FE : Nat) : Int)) <| some (IntKind.i64.wrap (n + (IntKind.i64.wrap (bt FE (IntKind.u8.wrap x)))))) = _
    rw [XP (by omega) h2, aK (by rw [JP]; omega)]
    simp only at e
    rw [Int.toNat_of_nonneg (by omega)] at e
    rw [e, dG (n := (k.val : Int) + 1) (by omega) (by omega), dG (by omega) (by omega)]
    congr 1
    omega
  · simp only at hk
    have : ((2 ^ k.val : Nat) : Int) ≤ ((x.toNat : Nat) : Int) := by exact_mod_cast hk
    rw [Int.toNat_of_nonneg (by omega)] at this
    simpa using this

theorem FN {x m : Int} (hm : 0 < m) : Int.fdiv x m = x / m := Int.fdiv_eq_ediv_of_nonneg _ (by omega)

theorem UL {x n : Int} (h1 : 1 ≤ x) (h2 : x ≤ 65535) (hn : 0 ≤ n ∧ n ≤ 90) : ∃ k : Nat, kI x n = some (n + k + 1) ∧ k ≤ 15 ∧ (2 : Int) ^ k ≤ x := by
  unfold kI
  by_cases h : 256 ≤ x
  · have hd : Int.fdiv x (2 ^ (min (Int.toNat (8 : Int)) 64)) = x / 256 := by rw [show (2 ^ (min (Int.toNat (8 : Int)) 64) : Int) = 256 from by decide]; exact FN (by omega)
    obtain ⟨k, e, h3, h4⟩ := UZ (x := x / 256) (n := n + 8) (by omega) (by omega) (by omega)
    refine ⟨k + 8, ?_, by omega, ?_⟩
    · simp only [h, decide_true, cond_true]
      rw [aK (by decide), hd, dG (n := n + 8) (by omega) (by omega), e]
      congr 1; omega
    · rw [Int.pow_add]; have : (2 : Int) ^ 8 = 256 := by decide
      rw [this]; omega
  · obtain ⟨k, e, h3, h4⟩ := UZ (x := x) (n := n) h1 (by omega) (by omega)
    exact ⟨k, by simp only [h, decide_false, cond_false, e], by omega, h4⟩

theorem UG {x n : Int} (h1 : 1 ≤ x) (h2 : x ≤ 4294967295) (hn : 0 ≤ n ∧ n ≤ 70) : ∃ k : Nat, kJ x n = some (n + k + 1) ∧ k ≤ 31 ∧ (2 : Int) ^ k ≤ x := by
  unfold kJ
  by_cases h : 65536 ≤ x
  · have hd : Int.fdiv x (2 ^ (min (Int.toNat (16 : Int)) 64)) = x / 65536 := by rw [show (2 ^ (min (Int.toNat (16 : Int)) 64) : Int) = 65536 from by decide]; exact FN (by omega)
    obtain ⟨k, e, h3, h4⟩ := UL (x := x / 65536) (n := n + 16) (by omega) (by omega) (by omega)
    refine ⟨k + 16, ?_, by omega, ?_⟩
    · simp only [h, decide_true, cond_true]
      rw [aK (by decide), hd, dG (n := n + 16) (by omega) (by omega), e]
      congr 1; omega
    · rw [Int.pow_add]; have : (2 : Int) ^ 16 = 65536 := by decide
      rw [this]; omega
  · obtain ⟨k, e, h3, h4⟩ := UL (x := x) (n := n) h1 (by omega) (by omega)
    exact ⟨k, by simp only [h, decide_false, cond_false, e], by omega, h4⟩

theorem UH {x : Int} (h1 : 1 ≤ x) (h2 : x ≤ 9223372036854775807) : ∃ k : Nat, jT x = some ((k : Int) + 1) ∧ k ≤ 63 ∧ (2 : Int) ^ k ≤ x := by
  unfold jT nI
  by_cases h : 4294967296 ≤ x
  · have hd : Int.fdiv x (2 ^ (min (Int.toNat (32 : Int)) 64)) = x / 4294967296 := by rw [show (2 ^ (min (Int.toNat (32 : Int)) 64) : Int) = 4294967296 from by decide]; exact FN (by omega)
    obtain ⟨k, e, h3, h4⟩ := UG (x := x / 4294967296) (n := 32) (by omega) (by omega) (by omega)
    refine ⟨k + 32, ?_, by omega, ?_⟩
    · simp only [h, decide_true, cond_true]
      rw [aK (by decide), hd, e]
      simp only [Option.bind_some]
      congr 1; omega
    · rw [Int.pow_add]; have : (2 : Int) ^ 32 = 4294967296 := by decide
      rw [this]; omega
  · obtain ⟨k, e, h3, h4⟩ := UG (x := x) (n := 0) h1 (by omega) (by omega)
    refine ⟨k, ?_, by omega, h4⟩
    simp only [h, decide_false, cond_false, e, Option.bind_some]
    congr 1; omega

theorem TL : bt FE 0 = 0 := by decide +kernel

theorem VJ : jT 0 = some 0 := by
  have h3 : lI 0 0 = some 0 := by
    show (aY (0 ≤ (IntKind.u8.wrap 0) ∧ (IntKind.u8.wrap 0) < ((ByteArray.size FE : Nat) : Int)) <| some (IntKind.i64.wrap (0 + (IntKind.i64.wrap (bt FE (IntKind.u8.wrap 0)))))) = _
    rw [XP (by omega) (by omega), aK (by rw [JP]; omega), TL, dG (n := 0) (by omega) (by omega), dG (by omega) (by omega)]
    rfl
  have h2 : kI 0 0 = some 0 := h3
  have h1 : kJ 0 0 = some 0 := h2
  unfold jT nI
  have : decide ((4294967296 : Int) ≤ 0) = false := by decide
  rw [this, cond_false, h1]
  rfl

theorem VR {n : Nat} (h1 : 1 ≤ n) (h2 : n < 2305843009213693951) : ∃ m : Int, kO (n : Int) = some m ∧ 1 ≤ m ∧ m ≤ 2 * n := by
  unfold kO
  rw [BY (by omega) (by omega)]
  obtain ⟨k, e, h3, h4⟩ := UH (x := (n : Int)) (by omega) (by omega)
  have hk : (2 : Int) ^ (k + 1) = 2 * 2 ^ k := by rw [Int.pow_succ]; omega
  have hp : (1 : Int) ≤ 2 ^ k := by
    have : (0 : Int) < 2 ^ k := Int.pow_pos (by decide)
    omega
  rw [e]
  simp only [Option.bind_some]
  rw [aK (by omega), show min (Int.toNat ((k : Int) + 1)) 64 = k + 1 by omega, Int.one_mul, hk, BY (by omega) (by omega)]
  exact ⟨_, rfl, by omega, by omega⟩

theorem ZT (x : Int) {m : Int} (h0 : 0 ≤ m) (hm : m ≤ 9223372036854775807) : 0 ≤ bM .and .u64 x m ∧ bM .and .u64 x m ≤ m := by
  have h1 : (BitVec.ofInt IntKind.u64.bits x &&& BitVec.ofInt IntKind.u64.bits m).toNat ≤ m.toNat := by
    rw [BitVec.toNat_and]
    refine Nat.le_trans Nat.and_le_right ?_
    rw [BitVec.toNat_ofInt]
    have : IntKind.u64.bits = 64 := rfl
    rw [this]
    omega
  have h2 : bM .and .u64 x m = ((BitVec.ofInt IntKind.u64.bits x &&& BitVec.ofInt IntKind.u64.bits m).toNat : Int) := BY (by omega) (by omega)
  rw [h2]
  omega

theorem SD (r : Int) : ∃ x, kV r = some x := by
  unfold kV
  rw [aK (by decide), aK (by decide), aK (by decide)]
  exact ⟨_, rfl⟩

theorem VC {lo i o : Nat} {d : List Int} (l r m : Int) (hi : i < d.length) (ho : lo + o < d.length) (hl : d.length < 2305843009213693951) :
    eS d (lo : Nat) l r m (i : Nat) (o : Nat) = some (.inl (swp d i (lo + o), r, ((i + 1 : Nat) : Int))) := by
  unfold eS
  rw [wrN (x := (lo : Int) + (o : Int)) (n := lo + o) (by omega) (by omega), wrN (n := i + 1) (by omega) (by omega)]
  simp only [Int.toNat_natCast]
  rw [aK (asN (by omega)), aK (asN (by omega)), aK (asN (by omega)), aK (asN (by omega))]
  rfl

theorem aAj {lo n : Nat} {m : Int} (hm : 1 ≤ m ∧ m ≤ 2 * n) (h8 : 8 ≤ n) : ∀ (q i : Nat) (r : Int) (d : List Int), lo + n / 4 * 2 + 2 - i = q → lo ≤ i → i ≤ lo + n / 4 * 2 + 2 → lo + n ≤ d.length → d.length < 2305843009213693951 →
    ∃ d', lp (fun s : List Int × Int × Int => cU (lo : Nat) (n : Nat) m s.1 s.2.1 s.2.2) (d, r, (i : Int)) = some d' ∧ Rel lo (lo + n) d d' := by
  have t4 : IntKind.i64.wrap (Int.tdiv (n : Int) 4) = ((n / 4 : Nat) : Int) ∨ 2305843009213693951 ≤ n := by
    by_cases h : n < 2305843009213693951
    · left
      have : Int.tdiv (n : Int) 4 = ((n / 4 : Nat) : Int) := by rw [Int.tdiv_eq_ediv_of_nonneg (by omega)]; omega
      rw [this]; exact wrN rfl (by omega)
    · right; omega
  intro q
  induction q with
  | zero =>
    intro i r d h1 h2 h3 h4 h5
    have t4 := t4.resolve_right (by omega)
    refine ⟨d, cO ?_, Rel.refl ..⟩
    show cU _ _ _ _ _ _ = _
    unfold cU
    rw [aK (by decide), t4, wrN (x := ((n / 4 : Nat) : Int) * 2) (n := n / 4 * 2) (by omega) (by omega), wrN (x := (lo : Int) + ((n / 4 * 2 : Nat) : Int)) (n := lo + n / 4 * 2) (by omega) (by omega), wrN (x := ((lo + n / 4 * 2 : Nat) : Int) + 1) (n := lo + n / 4 * 2 + 1) (by omega) (by omega)]
    have : decide (((i : Nat) : Int) ≤ ((lo + n / 4 * 2 + 1 : Nat) : Int)) = false := by simp; omega
    rw [this, cond_false]
  | succ q ih =>
    intro i r d h1 h2 h3 h4 h5
    have t4 := t4.resolve_right (by omega)
    obtain ⟨x, hx⟩ := SD r
    obtain ⟨a1, a2⟩ := ZT x.1 (m := m - 1) (by omega) (by omega)
    have hd : decide (((i : Nat) : Int) ≤ ((lo + n / 4 * 2 + 1 : Nat) : Int)) = true := by simp; omega
    have step : ∃ o, o < n ∧ cU (lo : Nat) (n : Nat) m d r (i : Nat) = some (.inl (swp d i (lo + o), x.2, ((i + 1 : Nat) : Int))) := by
      unfold cU
      rw [aK (by decide), t4, wrN (x := ((n / 4 : Nat) : Int) * 2) (n := n / 4 * 2) (by omega) (by omega), wrN (x := (lo : Int) + ((n / 4 * 2 : Nat) : Int)) (n := lo + n / 4 * 2) (by omega) (by omega), wrN (x := ((lo + n / 4 * 2 : Nat) : Int) + 1) (n := lo + n / 4 * 2 + 1) (by omega) (by omega), hd, cond_true, hx]
      simp only [Option.bind_some]
      rw [BY (x := m - 1) (by omega) (by omega)]
      have e1 : IntKind.i64.wrap (bM .and .u64 x.1 (m - 1)) = (((bM .and .u64 x.1 (m - 1)).toNat : Nat) : Int) := wrN (by omega) (by omega)
      rw [e1]
      by_cases h : (n : Int) ≤ (((bM .and .u64 x.1 (m - 1)).toNat : Nat) : Int)
      · refine ⟨(bM .and .u64 x.1 (m - 1)).toNat - n, by omega, ?_⟩
        simp only [h, decide_true, cond_true]
        rw [wrN (x := (((bM .and .u64 x.1 (m - 1)).toNat : Nat) : Int) - (n : Int)) (n := (bM .and .u64 x.1 (m - 1)).toNat - n) (by omega) (by omega)]
        exact VC _ _ _ (by omega) (by omega) h5
      · refine ⟨(bM .and .u64 x.1 (m - 1)).toNat, by omega, ?_⟩
        simp only [h, decide_false, cond_false]
        exact VC _ _ _ (by omega) (by omega) h5
    obtain ⟨o, ho, hs⟩ := step
    obtain ⟨d', e, rl⟩ := ih (i + 1) x.2 (swp d i (lo + o)) (by omega) (by omega) (by omega) (by rw [gL]; exact h4) (by rw [gL]; exact h5)
    exact ⟨d', (fI (show (fun s : List Int × Int × Int => cU (lo : Nat) (n : Nat) m s.1 s.2.1 s.2.2) (d, r, (i : Int)) = _ from hs)).trans e, (Rel.swp (i := i) (j := lo + o) (by omega) (by omega) (by omega) (by omega)).trans rl⟩

theorem SZ {lo hi : Nat} {d : List Int} (h8 : 8 ≤ hi - lo) (h1 : hi ≤ d.length) (h2 : d.length < 2305843009213693951) : ∃ d', gG d (lo : Int) (hi : Int) = some d' ∧ Rel lo hi d d' := by
  unfold gG
  have e1 : IntKind.i64.wrap ((hi : Int) - (lo : Int)) = ((hi - lo : Nat) : Int) := wrN (by omega) (by omega)
  have d1 : decide ((8 : Int) ≤ ((hi - lo : Nat) : Int)) = true := by simp; omega
  obtain ⟨m, em, m1, m2⟩ := VR (n := hi - lo) (by omega) (by omega)
  have t4 : IntKind.i64.wrap (Int.tdiv ((hi - lo : Nat) : Int) 4) = (((hi - lo) / 4 : Nat) : Int) := by
    have : Int.tdiv ((hi - lo : Nat) : Int) 4 = (((hi - lo) / 4 : Nat) : Int) := by rw [Int.tdiv_eq_ediv_of_nonneg (by omega)]; omega
    rw [this]; exact wrN rfl (by omega)
  rw [e1, d1, cond_true, em]
  simp only [Option.bind_some]
  rw [aK (by decide), t4, wrN (x := (((hi - lo) / 4 : Nat) : Int) * 2) (n := (hi - lo) / 4 * 2) (by omega) (by omega), wrN (x := (lo : Int) + (((hi - lo) / 4 * 2 : Nat) : Int)) (n := lo + (hi - lo) / 4 * 2) (by omega) (by omega), wrN (x := ((lo + (hi - lo) / 4 * 2 : Nat) : Int) - 1) (n := lo + (hi - lo) / 4 * 2 - 1) (by omega) (by omega)]
  unfold iU
  obtain ⟨d', e, r⟩ := aAj (lo := lo) (n := hi - lo) (m := m) ⟨m1, m2⟩ h8 (lo + (hi - lo) / 4 * 2 + 2 - (lo + (hi - lo) / 4 * 2 - 1)) (lo + (hi - lo) / 4 * 2 - 1) (IntKind.u64.wrap ((hi - lo : Nat) : Int)) d rfl (by omega) (by omega) (by omega) h2
  rw [e]
  have : lo + (hi - lo) = hi := by omega
  rw [this] at r
  exact ⟨d', rfl, r⟩

theorem VX {a b : Nat} {d : List Int} (s : Int) (ha : a < d.length) (hb : b < d.length) : ∃ (p q : Nat) (s' : Int), fS d (a : Int) (b : Int) s = some (((p : Int), (q : Int)), s') ∧ ((p = a ∧ q = b) ∨ (p = b ∧ q = a)) := by
  unfold fS
  rw [aK (asN hb), aK (asN ha), qT]
  simp only [Option.bind_some]
  cases decide (d.getD (Int.toNat (b : Int)) default < d.getD (Int.toNat (a : Int)) default)
  · exact ⟨a, b, _, rfl, .inl ⟨rfl, rfl⟩⟩
  · exact ⟨b, a, _, rfl, .inr ⟨rfl, rfl⟩⟩

theorem med {a b c : Nat} {d : List Int} (s : Int) (ha : a < d.length) (hb : b < d.length) (hc : c < d.length) : ∃ (p : Nat) (s' : Int), gY d (a : Int) (b : Int) (c : Int) s = some ((p : Int), s') ∧ (p = a ∨ p = b ∨ p = c) := by
  unfold gY
  obtain ⟨p1, q1, s1, e1, h1⟩ := VX s ha hb
  obtain ⟨p2, q2, s2, e2, h2⟩ := VX (a := q1) (b := c) (d := d) s1 (by omega) hc
  obtain ⟨p3, q3, s3, e3, h3⟩ := VX (a := p1) (b := p2) (d := d) s2 (by omega) (by omega)
  rw [e1]; simp only [Option.bind_some]
  rw [e2]; simp only [Option.bind_some]
  rw [e3]
  exact ⟨q3, s3, rfl, by omega⟩

theorem XE {a : Nat} {d : List Int} (s : Int) (h1 : 1 ≤ a) (ha : a + 1 < d.length) (hl : d.length < 2305843009213693951) : ∃ (p : Nat) (s' : Int), dQ d (a : Int) s = some ((p : Int), s') ∧ a - 1 ≤ p ∧ p ≤ a + 1 := by
  unfold dQ
  rw [wrN (x := (a : Int) - 1) (n := a - 1) (by omega) (by omega), wrN (x := (a : Int) + 1) (n := a + 1) (by omega) (by omega)]
  obtain ⟨p, s', e, h⟩ := med (a := a - 1) (b := a) (c := a + 1) (d := d) s (by omega) (by omega) (by omega)
  rw [e]
  exact ⟨p, s', rfl, by omega, by omega⟩

theorem XG (d : List Int) (s : Int) (j : Int) : ∃ h, fC d s j = some (j, h) := by
  unfold fC
  cases decide (s = 0) <;> cases decide (s = 12) <;> exact ⟨_, rfl⟩

theorem SF {lo hi : Nat} {d : List Int} (h8 : 12 < hi - lo) (h1 : hi ≤ d.length) (h2 : d.length < 2305843009213693951) : ∃ (p : Nat) (h : Int), gT d (lo : Int) (hi : Int) = some ((p : Int), h) ∧ lo ≤ p ∧ p < hi := by
  unfold gT
  have e1 : IntKind.i64.wrap ((hi : Int) - (lo : Int)) = ((hi - lo : Nat) : Int) := wrN (by omega) (by omega)
  have t4 : IntKind.i64.wrap (Int.tdiv ((hi - lo : Nat) : Int) 4) = (((hi - lo) / 4 : Nat) : Int) := by
    have : Int.tdiv ((hi - lo : Nat) : Int) 4 = (((hi - lo) / 4 : Nat) : Int) := by rw [Int.tdiv_eq_ediv_of_nonneg (by omega)]; omega
    rw [this]; exact wrN rfl (by omega)
  have d1 : decide ((8 : Int) ≤ ((hi - lo : Nat) : Int)) = true := by simp; omega
  have q1 : IntKind.i64.wrap ((lo : Int) + IntKind.i64.wrap ((((hi - lo) / 4 : Nat) : Int) * 1)) = ((lo + (hi - lo) / 4 : Nat) : Int) := by
    rw [wrN (x := (((hi - lo) / 4 : Nat) : Int) * 1) (n := (hi - lo) / 4) (by omega) (by omega)]; exact wrN (by omega) (by omega)
  have q2 : IntKind.i64.wrap ((lo : Int) + IntKind.i64.wrap ((((hi - lo) / 4 : Nat) : Int) * 2)) = ((lo + (hi - lo) / 4 * 2 : Nat) : Int) := by
    rw [wrN (x := (((hi - lo) / 4 : Nat) : Int) * 2) (n := (hi - lo) / 4 * 2) (by omega) (by omega)]; exact wrN (by omega) (by omega)
  have q3 : IntKind.i64.wrap ((lo : Int) + IntKind.i64.wrap ((((hi - lo) / 4 : Nat) : Int) * 3)) = ((lo + (hi - lo) / 4 * 3 : Nat) : Int) := by
    rw [wrN (x := (((hi - lo) / 4 : Nat) : Int) * 3) (n := (hi - lo) / 4 * 3) (by omega) (by omega)]; exact wrN (by omega) (by omega)
  rw [aK (by decide), aK (by decide), aK (by decide)]
  simp only [e1, t4, d1, q1, q2, q3, cond_true]
  by_cases h50 : (50 : Int) ≤ ((hi - lo : Nat) : Int)
  · simp only [h50, decide_true, cond_true]
    obtain ⟨p1, s1, f1, g1, g2⟩ := XE (a := lo + (hi - lo) / 4) (d := d) 0 (by omega) (by omega) h2
    obtain ⟨p2, s2, f2, g3, g4⟩ := XE (a := lo + (hi - lo) / 4 * 2) (d := d) s1 (by omega) (by omega) h2
    obtain ⟨p3, s3, f3, g5, g6⟩ := XE (a := lo + (hi - lo) / 4 * 3) (d := d) s2 (by omega) (by omega) h2
    obtain ⟨p4, s4, f4, g7⟩ := med (a := p1) (b := p2) (c := p3) (d := d) s3 (by omega) (by omega) (by omega)
    obtain ⟨h, f5⟩ := XG d s4 p4
    rw [f1]; simp only [Option.bind_some]
    rw [f2]; simp only [Option.bind_some]
    rw [f3]; simp only [Option.bind_some, fA]
    rw [f4]; simp only [Option.bind_some]
    exact ⟨p4, h, f5, by omega, by omega⟩
  · simp only [h50, decide_false, cond_false, fA]
    obtain ⟨p4, s4, f4, g7⟩ := med (a := lo + (hi - lo) / 4) (b := lo + (hi - lo) / 4 * 2) (c := lo + (hi - lo) / 4 * 3) (d := d) 0 (by omega) (by omega) (by omega)
    obtain ⟨h, f5⟩ := XG d s4 p4
    rw [f4]; simp only [Option.bind_some]
    exact ⟨p4, h, f5, by omega, by omega⟩

end Go.Abs
namespace Go.Abs
open Go
theorem JC {body : List Int × Int → Option ((List Int × Int) ⊕ (List Int × Int))} {d : List Int} {p : Nat → Prop} [DecidablePred p] {j : Nat}
    (hs : ∀ i, i ≤ j + 1 → body (d, (i : Int)) = if i ≤ j ∧ p i then some (.inl (d, ((i + 1 : Nat) : Int))) else some (.inr (d, (i : Int)))) :
    ∀ (n i : Nat), j + 1 - i = n → i ≤ j + 1 → ∃ i' : Nat, lp body (d, (i : Int)) = some (d, (i' : Int)) ∧ i ≤ i' ∧ i' ≤ j + 1 ∧ (∀ k, i ≤ k → k < i' → p k) ∧ (i' ≤ j → ¬ p i') := by
  intro n
  induction n with
  | zero =>
    intro i h1 h2
    have := hs i h2
    rw [if_neg (by omega)] at this
    exact ⟨i, cO this, Nat.le_refl _, h2, fun k a b => by omega, fun h => by omega⟩
  | succ n ih =>
    intro i h1 h2
    have h := hs i h2
    by_cases hp : p i
    · rw [if_pos ⟨by omega, hp⟩] at h
      obtain ⟨i', e, a1, a2, a3, a4⟩ := ih (i + 1) (by omega) (by omega)
      refine ⟨i', (fI h).trans e, by omega, a2, fun k b1 b2 => ?_, a4⟩
      by_cases hk : k = i
      · rw [hk]; exact hp
      · exact a3 k (by omega) b2
    · rw [if_neg fun hh => hp hh.2] at h
      exact ⟨i, cO h, Nat.le_refl _, h2, fun k a b => by omega, fun _ => hp⟩

theorem CI {body : List Int × Int → Option ((List Int × Int) ⊕ (List Int × Int))} {d : List Int} {p : Nat → Prop} [DecidablePred p] {i m : Nat} (hi : 1 ≤ i)
    (hs : ∀ j, j ≤ m → body (d, (j : Int)) = if i ≤ j ∧ p j then some (.inl (d, ((j - 1 : Nat) : Int))) else some (.inr (d, (j : Int)))) :
    ∀ (j : Nat), j ≤ m → i ≤ j + 1 → ∃ j' : Nat, lp body (d, (j : Int)) = some (d, (j' : Int)) ∧ i ≤ j' + 1 ∧ j' ≤ j ∧ (∀ k, j' < k → k ≤ j → p k) ∧ (i ≤ j' → ¬ p j') := by
  intro j
  induction j with
  | zero =>
    intro h1 h2
    have := hs 0 h1
    rw [if_neg (by omega)] at this
    exact ⟨0, cO this, by omega, Nat.le_refl _, fun k a b => by omega, fun h => by omega⟩
  | succ j ih =>
    intro h1 h2
    have h := hs (j + 1) h1
    by_cases hp : i ≤ j + 1 ∧ p (j + 1)
    · rw [if_pos hp] at h
      obtain ⟨j', e, a1, a2, a3, a4⟩ := ih (by omega) (by omega)
      refine ⟨j', (fI h).trans e, a1, by omega, fun k b1 b2 => ?_, a4⟩
      by_cases hk : k = j + 1
      · rw [hk]; exact hp.2
      · exact a3 k b1 (by omega)
    · rw [if_neg hp] at h
      exact ⟨j + 1, cO h, by omega, Nat.le_refl _, fun k a b => by omega, fun h1 h2 => hp ⟨h1, h2⟩⟩

theorem QF {α : Type} {i j u v : Nat} {d : List Int} {n : Bool} {x y : Option α} (hu : i ≤ j → u < d.length) (hv : i ≤ j → v < d.length) :
    (aY ((decide ((i : Int) ≤ (j : Int))) = true → 0 ≤ (u : Int) ∧ (u : Int) < ((List.length d : Nat) : Int)) <|
    aY ((decide ((i : Int) ≤ (j : Int))) = true → 0 ≤ (v : Int) ∧ (v : Int) < ((List.length d : Nat) : Int)) <|
    (cX (decide ((i : Int) ≤ (j : Int))) (cP (List.getD d (Int.toNat (u : Int)) default) (List.getD d (Int.toNat (v : Int)) default))).bind fun z =>
    cond ((decide ((i : Int) ≤ (j : Int))) && (Bool.xor n z)) x y) = if i ≤ j ∧ (Bool.xor n (decide (gN d u < gN d v))) = true then x else y := by
  by_cases h : i ≤ j
  · have hd : decide ((i : Int) ≤ (j : Int)) = true := by simp; omega
    rw [hd]
    rw [aK fun _ => asN (hu h), aK fun _ => asN (hv h)]
    simp only [cX, cond_true, qT, Option.bind_some, Bool.true_and, Int.toNat_natCast, h, true_and, gN]
    cases Bool.xor n (decide (d.getD u default < d.getD v default)) <;> simp
  · have hd : decide ((i : Int) ≤ (j : Int)) = false := by simp; omega
    rw [hd, aK (fun h => by cases h), aK (fun h => by cases h)]
    simp [cX, h]

theorem FF {α : Type} {i j u v : Nat} {d : List Int} {x y : Option α} (hu : i ≤ j → u < d.length) (hv : i ≤ j → v < d.length) :
    (aY ((decide ((i : Int) ≤ (j : Int))) = true → 0 ≤ (u : Int) ∧ (u : Int) < ((List.length d : Nat) : Int)) <|
    aY ((decide ((i : Int) ≤ (j : Int))) = true → 0 ≤ (v : Int) ∧ (v : Int) < ((List.length d : Nat) : Int)) <|
    (cX (decide ((i : Int) ≤ (j : Int))) (cP (List.getD d (Int.toNat (u : Int)) default) (List.getD d (Int.toNat (v : Int)) default))).bind fun z =>
    cond ((decide ((i : Int) ≤ (j : Int))) && z) x y) = if i ≤ j ∧ gN d u < gN d v then x else y := by
  have := QF (n := false) (x := x) (y := y) hu hv
  simp only [Bool.false_xor] at this
  exact this.trans (by simp)

theorem FU {α : Type} {i j u v : Nat} {d : List Int} {x y : Option α} (hu : i ≤ j → u < d.length) (hv : i ≤ j → v < d.length) :
    (aY ((decide ((i : Int) ≤ (j : Int))) = true → 0 ≤ (u : Int) ∧ (u : Int) < ((List.length d : Nat) : Int)) <|
    aY ((decide ((i : Int) ≤ (j : Int))) = true → 0 ≤ (v : Int) ∧ (v : Int) < ((List.length d : Nat) : Int)) <|
    (cX (decide ((i : Int) ≤ (j : Int))) (cP (List.getD d (Int.toNat (u : Int)) default) (List.getD d (Int.toNat (v : Int)) default))).bind fun z =>
    cond ((decide ((i : Int) ≤ (j : Int))) && (!z)) x y) = if i ≤ j ∧ ¬ gN d u < gN d v then x else y := by
  have := QF (n := true) (x := x) (y := y) hu hv
  simp only [Bool.true_xor] at this
  exact this.trans (by simp)

theorem YO {a j : Nat} {d : List Int} (ha : a < d.length) (hj : j < d.length) (hl : d.length < 2305843009213693951) : ∀ i, i ≤ j + 1 → eB (a : Nat) (j : Nat) d (i : Nat) = if i ≤ j ∧ gN d i < gN d a then some (.inl (d, ((i + 1 : Nat) : Int))) else some (.inr (d, (i : Int))) := by
  intro i hi
  unfold eB
  rw [wrN (x := (i : Int) + 1) (n := i + 1) (by omega) (by omega)]
  exact FF (u := i) (v := a) (by omega) (by omega)

theorem VP {a j : Nat} {d : List Int} (ha : a < d.length) (hj : j < d.length) (hl : d.length < 2305843009213693951) : ∀ i, i ≤ j + 1 → eF (a : Nat) (j : Nat) d (i : Nat) = if i ≤ j ∧ gN d i < gN d a then some (.inl (d, ((i + 1 : Nat) : Int))) else some (.inr (d, (i : Int))) := by
  intro i hi
  unfold eF
  rw [wrN (x := (i : Int) + 1) (n := i + 1) (by omega) (by omega)]
  exact FF (u := i) (v := a) (by omega) (by omega)

theorem TN {a i m : Nat} {d : List Int} (hi : 1 ≤ i) (ha : a < d.length) (hm : m < d.length) (hl : d.length < 2305843009213693951) : ∀ j, j ≤ m → eG (a : Nat) (i : Nat) d (j : Nat) = if i ≤ j ∧ ¬ gN d j < gN d a then some (.inl (d, ((j - 1 : Nat) : Int))) else some (.inr (d, (j : Int))) := by
  intro j hj
  unfold eG
  refine (FU (i := i) (j := j) (d := d) (α := (List Int × Int) ⊕ (List Int × Int)) (u := j) (v := a) (x := some (.inl (d, IntKind.i64.wrap ((j : Int) - 1)))) (y := some (.inr (d, (j : Int)))) (by omega) (by omega)).trans ?_
  by_cases h : i ≤ j ∧ ¬ gN d j < gN d a
  · rw [if_pos h, if_pos h, wrN (x := (j : Int) - 1) (n := j - 1) (by omega) (by omega)]
  · rw [if_neg h, if_neg h]

theorem RT {a i m : Nat} {d : List Int} (hi : 1 ≤ i) (ha : a < d.length) (hm : m < d.length) (hl : d.length < 2305843009213693951) : ∀ j, j ≤ m → eN (a : Nat) (i : Nat) d (j : Nat) = if i ≤ j ∧ ¬ gN d j < gN d a then some (.inl (d, ((j - 1 : Nat) : Int))) else some (.inr (d, (j : Int))) := by
  intro j hj
  unfold eN
  refine (FU (i := i) (j := j) (d := d) (α := (List Int × Int) ⊕ (List Int × Int)) (u := j) (v := a) (x := some (.inl (d, IntKind.i64.wrap ((j : Int) - 1)))) (y := some (.inr (d, (j : Int)))) (by omega) (by omega)).trans ?_
  by_cases h : i ≤ j ∧ ¬ gN d j < gN d a
  · rw [if_pos h, if_pos h, wrN (x := (j : Int) - 1) (n := j - 1) (by omega) (by omega)]
  · rw [if_neg h, if_neg h]

theorem WX {a j : Nat} {d : List Int} (ha : a < d.length) (hj : j < d.length) (hl : d.length < 2305843009213693951) : ∀ i, i ≤ j + 1 → dM (a : Nat) (j : Nat) d (i : Nat) = if i ≤ j ∧ ¬ gN d a < gN d i then some (.inl (d, ((i + 1 : Nat) : Int))) else some (.inr (d, (i : Int))) := by
  intro i hi
  unfold dM
  rw [wrN (x := (i : Int) + 1) (n := i + 1) (by omega) (by omega)]
  exact FU (u := a) (v := i) (by omega) (by omega)

theorem SJ {a i m : Nat} {d : List Int} (hi : 1 ≤ i) (ha : a < d.length) (hm : m < d.length) (hl : d.length < 2305843009213693951) : ∀ j, j ≤ m → dN (a : Nat) (i : Nat) d (j : Nat) = if i ≤ j ∧ gN d a < gN d j then some (.inl (d, ((j - 1 : Nat) : Int))) else some (.inr (d, (j : Int))) := by
  intro j hj
  unfold dN
  refine (FF (i := i) (j := j) (d := d) (α := (List Int × Int) ⊕ (List Int × Int)) (u := a) (v := j) (x := some (.inl (d, IntKind.i64.wrap ((j : Int) - 1)))) (y := some (.inr (d, (j : Int)))) (by omega) (by omega)).trans ?_
  by_cases h : i ≤ j ∧ gN d a < gN d j
  · rw [if_pos h, if_pos h, wrN (x := (j : Int) - 1) (n := j - 1) (by omega) (by omega)]
  · rw [if_neg h, if_neg h]

structure xA (a b i j : Nat) (d : List Int) : Prop where
  hi : a < i
  hij : i ≤ j + 1
  hj : j < b
  lo : ∀ k, a < k → k < i → gN d k < gN d a
  up : ∀ k, j < k → k < b → gN d a ≤ gN d k

theorem xA.swap {a b i j : Nat} {d : List Int} (h : xA a b i j d) (hb : b ≤ d.length) (hij : i < j) (h1 : gN d a ≤ gN d i) (h2 : gN d j < gN d a) : xA a b (i + 1) (j - 1) (swp d i j) := by
  have := h.hi; have := h.hj
  have g := rR (d := d) (i := i) (j := j) (by omega) (by omega)
  have ga : gN (swp d i j) a = gN d a := by rw [g, if_neg (by omega), if_neg (by omega)]
  refine ⟨by omega, by omega, by omega, fun k k1 k2 => ?_, fun k k1 k2 => ?_⟩
  · rw [ga, g, if_neg (by omega)]
    by_cases hk : k = i
    · rw [if_pos hk]; exact h2
    · rw [if_neg hk]; exact h.lo k k1 (by omega)
  · rw [ga, g]
    by_cases hk : k = j
    · rw [if_pos hk]; exact h1
    · rw [if_neg hk, if_neg (by omega)]; exact h.up k (by omega) k2

theorem HJ {a b i j : Nat} {d : List Int} (h : xA a b i j d) (hb : b ≤ d.length) (hl : d.length < 2305843009213693951) : ∃ i' j' : Nat, xA a b i' j' d ∧ i ≤ i' ∧ j' ≤ j ∧ (j' < i' → j' + 1 = i') ∧ (i' ≤ j' → i' < j' ∧ gN d a ≤ gN d i' ∧ gN d j' < gN d a) ∧
    dH (a : Nat) d (i : Nat) (j : Nat) = eJ d (a : Nat) (i' : Nat) (j' : Nat) ∧ fH d (a : Nat) (i : Nat) (j : Nat) = eE d (a : Nat) (i' : Nat) (j' : Nat) := by
  have h1 := h.hi; have h2 := h.hij; have h3 := h.hj
  obtain ⟨i', e1, a1, a2, a3, a4⟩ := JC (body := fun s => eF (a : Nat) (j : Nat) s.1 s.2) (d := d) (p := fun k => gN d k < gN d a) (j := j) (VP (a := a) (j := j) (d := d) (by omega) (by omega) hl) (j + 1 - i) i rfl h2
  obtain ⟨i2, e1', b1, b2, b3, b4⟩ := JC (body := fun s => eB (a : Nat) (j : Nat) s.1 s.2) (d := d) (p := fun k => gN d k < gN d a) (j := j) (YO (a := a) (j := j) (d := d) (by omega) (by omega) hl) (j + 1 - i) i rfl h2
  have hii : i2 = i' := by
    rcases Nat.lt_trichotomy i2 i' with hh | hh | hh
    · exact absurd (a3 i2 b1 hh) (b4 (by omega))
    · exact hh
    · exact absurd (b3 i' a1 hh) (a4 (by omega))
  subst hii
  obtain ⟨j', f1, c1, c2, c3, c4⟩ := CI (body := fun s => eN (a : Nat) (i2 : Nat) s.1 s.2) (d := d) (p := fun k => ¬ gN d k < gN d a) (i := i2) (m := j) (by omega) (RT (a := a) (i := i2) (m := j) (d := d) (by omega) (by omega) (by omega) hl) j (Nat.le_refl _) a2
  obtain ⟨j2, f1', g1, g2, g3, g4⟩ := CI (body := fun s => eG (a : Nat) (i2 : Nat) s.1 s.2) (d := d) (p := fun k => ¬ gN d k < gN d a) (i := i2) (m := j) (by omega) (TN (a := a) (i := i2) (m := j) (d := d) (by omega) (by omega) (by omega) hl) j (Nat.le_refl _) a2
  have hjj : j2 = j' := by
    rcases Nat.lt_trichotomy j2 j' with hh | hh | hh
    · exact absurd (g3 j' hh c2) (c4 (by omega))
    · exact hh
    · exact absurd (c3 j2 hh g2) (g4 (by omega))
  subst hjj
  have hend : i2 ≤ j2 → i2 < j2 ∧ gN d a ≤ gN d i2 ∧ gN d j2 < gN d a := fun hh => by
    have k1 : ¬ gN d i2 < gN d a := a4 (by omega)
    have k2 : gN d j2 < gN d a := Classical.byContradiction fun hn => c4 hh hn
    refine ⟨?_, by omega, k2⟩
    rcases Nat.lt_or_ge i2 j2 with h | h
    · exact h
    · have : i2 = j2 := by omega
      rw [this] at k1; exact absurd k2 k1
  refine ⟨i2, j2, ⟨by omega, by omega, by omega, fun k k1 k2 => ?_, fun k k1 k2 => ?_⟩, a1, c2, fun hh => by omega, hend, ?_, ?_⟩
  · by_cases hk : k < i
    · exact h.lo k k1 hk
    · exact a3 k (by omega) k2
  · by_cases hk : j < k
    · exact h.up k hk k2
    · have := c3 k k1 (by omega); omega
  · unfold dH jZ
    rw [show lp (fun s : List Int × Int => eF (a : Nat) (j : Nat) s.1 s.2) (d, (i : Int)) = some (d, (i2 : Int)) from e1]
    simp only [Option.bind_some]
    unfold hU kA
    rw [show lp (fun s : List Int × Int => eN (a : Nat) (i2 : Nat) s.1 s.2) (d, (j : Int)) = some (d, (j2 : Int)) from f1]
    rfl
  · unfold fH
    rw [show lp (fun s : List Int × Int => eB (a : Nat) (j : Nat) s.1 s.2) (d, (i : Int)) = some (d, (i2 : Int)) from e1']
    simp only [Option.bind_some]
    unfold iA jW
    rw [show lp (fun s : List Int × Int => eG (a : Nat) (i2 : Nat) s.1 s.2) (d, (j : Int)) = some (d, (j2 : Int)) from f1']
    rfl

theorem xA.rel {a b i j : Nat} {d : List Int} (h : xA a b i j d) (hb : b ≤ d.length) (hij : i ≤ j) : Rel (a + 1) b d (swp d i j) := by
  have := h.hi; have := h.hj
  exact Rel.swp (i := i) (j := j) (by omega) (by omega) (by omega) (by omega)

theorem YB {a b : Nat} : ∀ (n i j : Nat) (d : List Int), j + 1 - i = n → b ≤ d.length → d.length < 2305843009213693951 → xA a b i j d →
    ∃ (d' : List Int) (j' : Nat), lp (fun s : List Int × Int × Int => dH (a : Nat) s.1 s.2.1 s.2.2) (d, (i : Int), (j : Int)) = some (d', (j' : Int)) ∧ Rel (a + 1) b d d' ∧ xA a b (j' + 1) j' d' := by
  intro n
  induction n using Nat.strongRecOn with
  | ind n ih =>
    intro i j d h1 h2 h3 h
    obtain ⟨i', j', p1, p2, p3, p4, p5, p6, _⟩ := HJ h h2 h3
    have q1 := p1.hi; have q2 := p1.hj; have q3 := p1.hij
    by_cases hlt : j' < i'
    · have hs : dH (a : Nat) d (i : Nat) (j : Nat) = some (.inr (d, (j' : Int))) := by
        rw [p6]
        unfold eJ
        have : decide ((j' : Int) < (i' : Int)) = true := by simp; omega
        rw [this, cond_true]
      have := p4 hlt
      exact ⟨d, j', cO hs, Rel.refl .., by rw [this]; exact p1⟩
    · obtain ⟨k1, k2, k3⟩ := p5 (by omega)
      have hs : dH (a : Nat) d (i : Nat) (j : Nat) = some (.inl (swp d i' j', ((i' + 1 : Nat) : Int), ((j' - 1 : Nat) : Int))) := by
        rw [p6]
        unfold eJ
        have : decide ((j' : Int) < (i' : Int)) = false := by simp; omega
        rw [this, cond_false]
        simp only [Int.toNat_natCast]
        rw [aK (asN (by omega)), aK (asN (by omega)), aK (asN (by omega)), aK (asN (by omega)), wrN (x := (i' : Int) + 1) (n := i' + 1) (by omega) (by omega), wrN (x := (j' : Int) - 1) (n := j' - 1) (by omega) (by omega)]
        rfl
      obtain ⟨d', j2, e, r, p⟩ := ih (j' - 1 + 1 - (i' + 1)) (by omega) (i' + 1) (j' - 1) (swp d i' j') rfl (by rw [gL]; exact h2) (by rw [gL]; exact h3) (p1.swap h2 k1 k2 k3)
      exact ⟨d', j2, (fI hs).trans e, (p1.rel h2 (by omega)).trans r, p⟩

theorem MY {a b j : Nat} {d : List Int} (h : xA a b (j + 1) j d) (hb : b ≤ d.length) : Rel a b d (swp d j a) ∧ (∀ k, a ≤ k → k < j → gN (swp d j a) k ≤ gN (swp d j a) j) ∧ (∀ k, j < k → k < b → gN (swp d j a) j ≤ gN (swp d j a) k) := by
  have h1 := h.hi; have h3 := h.hj
  have g := rR (d := d) (i := j) (j := a) (by omega) (by omega)
  have gj : gN (swp d j a) j = gN d a := by
    rw [g]
    by_cases hh : j = a
    · rw [if_pos hh, hh]
    · rw [if_neg hh, if_pos rfl]
  refine ⟨Rel.swp (i := j) (j := a) (by omega) (by omega) (by omega) (by omega), fun k k1 k2 => ?_, fun k k1 k2 => ?_⟩
  · rw [gj, g]
    by_cases hk : k = a
    · rw [if_pos hk]
      have := h.lo j (by omega) (by omega); omega
    · rw [if_neg hk, if_neg (by omega)]
      have := h.lo k (by omega) (by omega); omega
  · rw [gj, g, if_neg (by omega), if_neg (by omega)]
    exact h.up k k1 k2

theorem MI {lo hi p : Nat} {d : List Int} (h0 : lo < hi) (hb : hi ≤ d.length) (hl : d.length < 2305843009213693951) (hp : lo ≤ p ∧ p < hi) :
    ∃ (m : Nat) (fl : Bool) (d' : List Int), fZ d (lo : Int) (hi : Int) (p : Int) = some (((m : Int), fl), d') ∧ lo ≤ m ∧ m < hi ∧ Rel lo hi d d' ∧ (∀ k, lo ≤ k → k < m → gN d' k ≤ gN d' m) ∧ (∀ k, m < k → k < hi → gN d' m ≤ gN d' k) := by
  unfold fZ
  rw [aK (asN (by omega)), aK (asN (by omega)), aK (asN (by omega)), aK (asN (by omega)), wrN (x := (lo : Int) + 1) (n := lo + 1) (by omega) (by omega), wrN (x := (hi : Int) - 1) (n := hi - 1) (by omega) (by omega)]
  simp only [Int.toNat_natCast]
  have r0 : Rel lo hi d (swp d lo p) := Rel.swp (i := lo) (j := p) (by omega) (by omega) (by omega) (by omega)
  have l0 : (swp d lo p).length = d.length := gL ..
  have inv : xA lo hi (lo + 1) (hi - 1) (swp d lo p) := ⟨by omega, by omega, by omega, fun k k1 k2 => by omega, fun k k1 k2 => by omega⟩
  obtain ⟨i', j', p1, p2, p3, p4, p5, _, p6⟩ := HJ inv (by rw [l0]; exact hb) (by rw [l0]; exact hl)
  have e0 : fH (List.set (List.set d lo (List.getD d p default)) p (List.getD d lo default)) (lo : Int) ((lo + 1 : Nat) : Int) ((hi - 1 : Nat) : Int) = eE (swp d lo p) (lo : Nat) (i' : Nat) (j' : Nat) := p6
  rw [e0]
  have q1 := p1.hi; have q2 := p1.hj; have q3 := p1.hij
  generalize hg : swp d lo p = d1 at *
  unfold eE
  by_cases hlt : j' < i'
  · have : decide ((j' : Int) < (i' : Int)) = true := by simp; omega
    rw [this, cond_true]
    simp only [Int.toNat_natCast]
    rw [aK (asN (by omega)), aK (asN (by omega)), aK (asN (by omega)), aK (asN (by omega))]
    have hp1 : xA lo hi (j' + 1) j' d1 := by rw [p4 hlt]; exact p1
    obtain ⟨r, a1, a2⟩ := MY hp1 (by omega)
    exact ⟨j', true, swp d1 j' lo, rfl, by omega, by omega, r0.trans r, a1, a2⟩
  · obtain ⟨k1, k2, k3⟩ := p5 (by omega)
    have : decide ((j' : Int) < (i' : Int)) = false := by simp; omega
    rw [this, cond_false]
    simp only [Int.toNat_natCast]
    rw [aK (asN (by omega)), aK (asN (by omega)), aK (asN (by omega)), aK (asN (by omega)), wrN (x := (i' : Int) + 1) (n := i' + 1) (by omega) (by omega), wrN (x := (j' : Int) - 1) (n := j' - 1) (by omega) (by omega)]
    obtain ⟨d2, j2, e, r, pp⟩ := YB (a := lo) (b := hi) (j' - 1 + 1 - (i' + 1)) (i' + 1) (j' - 1) (swp d1 i' j') rfl (by rw [gL]; omega) (by rw [gL]; omega) (p1.swap (by omega) k1 k2 k3)
    have w1 := pp.hi; have w2 := pp.hj
    have l2 : d2.length = d1.length := by rw [r.len, gL]
    unfold jU
    rw [show lp (fun s : List Int × Int × Int => dH (lo : Int) s.1 s.2.1 s.2.2) ((List.set (List.set d1 i' (List.getD d1 j' default)) j' (List.getD d1 i' default)), ((i' + 1 : Nat) : Int), ((j' - 1 : Nat) : Int)) = some (d2, (j2 : Int)) from e]
    simp only [Option.bind_some, iB, Int.toNat_natCast]
    rw [aK (asN (by omega)), aK (asN (by omega)), aK (asN (by omega)), aK (asN (by omega))]
    obtain ⟨rr, a1, a2⟩ := MY pp (by omega)
    exact ⟨j2, false, swp d2 j2 lo, rfl, by omega, by omega, ((r0.trans ((p1.rel (by omega) (by omega)).mono (by omega) (Nat.le_refl _))).trans (r.mono (by omega) (Nat.le_refl _))).trans rr, a1, a2⟩

end Go.Abs
namespace Go.Abs
open Go
structure CF (a b i j : Nat) (d : List Int) : Prop where
  hi : a < i
  hij : i ≤ j + 1
  hj : j < b
  lo : ∀ k, a < k → k < i → gN d k ≤ gN d a
  up : ∀ k, j < k → k < b → gN d a < gN d k

theorem CF.swap {a b i j : Nat} {d : List Int} (h : CF a b i j d) (hb : b ≤ d.length) (hij : i < j) (h1 : gN d a < gN d i) (h2 : gN d j ≤ gN d a) : CF a b (i + 1) (j - 1) (swp d i j) := by
  have := h.hi; have := h.hj
  have g := rR (d := d) (i := i) (j := j) (by omega) (by omega)
  have ga : gN (swp d i j) a = gN d a := by rw [g, if_neg (by omega), if_neg (by omega)]
  refine ⟨by omega, by omega, by omega, fun k k1 k2 => ?_, fun k k1 k2 => ?_⟩
  · rw [ga, g, if_neg (by omega)]
    by_cases hk : k = i
    · rw [if_pos hk]; exact h2
    · rw [if_neg hk]; exact h.lo k k1 (by omega)
  · rw [ga, g]
    by_cases hk : k = j
    · rw [if_pos hk]; exact h1
    · rw [if_neg hk, if_neg (by omega)]; exact h.up k (by omega) k2

theorem OD {a b i j : Nat} {d : List Int} (h : CF a b i j d) (hb : b ≤ d.length) (hl : d.length < 2305843009213693951) : ∃ i' j' : Nat, CF a b i' j' d ∧ i ≤ i' ∧ j' ≤ j ∧ (j' < i' → j' + 1 = i') ∧ (i' ≤ j' → i' < j' ∧ gN d a < gN d i' ∧ gN d j' ≤ gN d a) ∧
    cR (a : Nat) d (i : Nat) (j : Nat) = dL d (a : Nat) (i' : Nat) (j' : Nat) := by
  have h1 := h.hi; have h2 := h.hij; have h3 := h.hj
  obtain ⟨i', e1, a1, a2, a3, a4⟩ := JC (body := fun s => dM (a : Nat) (j : Nat) s.1 s.2) (d := d) (p := fun k => ¬ gN d a < gN d k) (j := j) (WX (a := a) (j := j) (d := d) (by omega) (by omega) hl) (j + 1 - i) i rfl h2
  obtain ⟨j', f1, c1, c2, c3, c4⟩ := CI (body := fun s => dN (a : Nat) (i' : Nat) s.1 s.2) (d := d) (p := fun k => gN d a < gN d k) (i := i') (m := j) (by omega) (SJ (a := a) (i := i') (m := j) (d := d) (by omega) (by omega) (by omega) hl) j (Nat.le_refl _) a2
  have hend : i' ≤ j' → i' < j' ∧ gN d a < gN d i' ∧ gN d j' ≤ gN d a := fun hh => by
    have k1 : gN d a < gN d i' := Classical.byContradiction fun hn => a4 (by omega) hn
    have k2 : ¬ gN d a < gN d j' := c4 hh
    refine ⟨?_, k1, by omega⟩
    rcases Nat.lt_or_ge i' j' with h | h
    · exact h
    · have : i' = j' := by omega
      rw [this] at k1; exact absurd k1 k2
  refine ⟨i', j', ⟨by omega, by omega, by omega, fun k k1 k2 => ?_, fun k k1 k2 => ?_⟩, a1, c2, fun hh => by omega, hend, ?_⟩
  · by_cases hk : k < i
    · exact h.lo k k1 hk
    · have := a3 k (by omega) k2; omega
  · by_cases hk : j < k
    · exact h.up k hk k2
    · exact c3 k k1 (by omega)
  · unfold cR iK
    rw [show lp (fun s : List Int × Int => dM (a : Nat) (j : Nat) s.1 s.2) (d, (i : Int)) = some (d, (i' : Int)) from e1]
    simp only [Option.bind_some]
    unfold fN iM
    rw [show lp (fun s : List Int × Int => dN (a : Nat) (i' : Nat) s.1 s.2) (d, (j : Int)) = some (d, (j' : Int)) from f1]
    rfl

theorem WV {a b : Nat} : ∀ (n i j : Nat) (d : List Int), j + 1 - i = n → b ≤ d.length → d.length < 2305843009213693951 → CF a b i j d →
    ∃ (d' : List Int) (j' : Nat), lp (fun s : List Int × Int × Int => cR (a : Nat) s.1 s.2.1 s.2.2) (d, (i : Int), (j : Int)) = some (d', ((j' + 1 : Nat) : Int)) ∧ Rel (a + 1) b d d' ∧ CF a b (j' + 1) j' d' := by
  intro n
  induction n using Nat.strongRecOn with
  | ind n ih =>
    intro i j d h1 h2 h3 h
    obtain ⟨i', j', p1, p2, p3, p4, p5, p6⟩ := OD h h2 h3
    have q1 := p1.hi; have q2 := p1.hj; have q3 := p1.hij
    by_cases hlt : j' < i'
    · have hs : cR (a : Nat) d (i : Nat) (j : Nat) = some (.inr (d, (i' : Int))) := by
        rw [p6]
        unfold dL
        have : decide ((j' : Int) < (i' : Int)) = true := by simp; omega
        rw [this, cond_true]
      have := p4 hlt
      exact ⟨d, j', by rw [this]; exact cO hs, Rel.refl .., by rw [this]; exact p1⟩
    · obtain ⟨k1, k2, k3⟩ := p5 (by omega)
      have hs : cR (a : Nat) d (i : Nat) (j : Nat) = some (.inl (swp d i' j', ((i' + 1 : Nat) : Int), ((j' - 1 : Nat) : Int))) := by
        rw [p6]
        unfold dL
        have : decide ((j' : Int) < (i' : Int)) = false := by simp; omega
        rw [this, cond_false]
        simp only [Int.toNat_natCast]
        rw [aK (asN (by omega)), aK (asN (by omega)), aK (asN (by omega)), aK (asN (by omega)), wrN (x := (i' : Int) + 1) (n := i' + 1) (by omega) (by omega), wrN (x := (j' : Int) - 1) (n := j' - 1) (by omega) (by omega)]
        rfl
      obtain ⟨d', j2, e, r, p⟩ := ih (j' - 1 + 1 - (i' + 1)) (by omega) (i' + 1) (j' - 1) (swp d i' j') rfl (by rw [gL]; exact h2) (by rw [gL]; exact h3) (p1.swap h2 k1 k2 k3)
      exact ⟨d', j2, (fI hs).trans e, (Rel.swp (i := i') (j := j') (by omega) (by omega) (by omega) (by omega)).trans r, p⟩

theorem KN {lo hi p : Nat} {d : List Int} (h0 : lo < hi) (hb : hi ≤ d.length) (hl : d.length < 2305843009213693951) (hp : lo ≤ p ∧ p < hi) :
    ∃ (m : Nat) (d' : List Int), eP d (lo : Int) (hi : Int) (p : Int) = some ((m : Int), d') ∧ lo < m ∧ m ≤ hi ∧ Rel lo hi d d' ∧ (∀ k, lo ≤ k → k < m → gN d' k ≤ gN d p) ∧ (∀ k, m ≤ k → k < hi → gN d p < gN d' k) := by
  unfold eP
  rw [aK (asN (by omega)), aK (asN (by omega)), aK (asN (by omega)), aK (asN (by omega)), wrN (x := (lo : Int) + 1) (n := lo + 1) (by omega) (by omega), wrN (x := (hi : Int) - 1) (n := hi - 1) (by omega) (by omega)]
  simp only [Int.toNat_natCast]
  have r0 : Rel lo hi d (swp d lo p) := Rel.swp (i := lo) (j := p) (by omega) (by omega) (by omega) (by omega)
  have l0 : (swp d lo p).length = d.length := gL ..
  have g := rR (d := d) (i := lo) (j := p) (by omega) (by omega)
  have g0 : gN (swp d lo p) lo = gN d p := by
    rw [g]
    by_cases hh : lo = p
    · rw [if_pos hh, hh]
    · rw [if_neg hh, if_pos rfl]
  have inv : CF lo hi (lo + 1) (hi - 1) (swp d lo p) := ⟨by omega, by omega, by omega, fun k k1 k2 => by omega, fun k k1 k2 => by omega⟩
  obtain ⟨d', j', e, r, pp⟩ := WV (a := lo) (b := hi) (hi - 1 + 1 - (lo + 1)) (lo + 1) (hi - 1) (swp d lo p) rfl (by rw [l0]; exact hb) (by rw [l0]; exact hl) inv
  have w1 := pp.hi; have w2 := pp.hj
  have ga : gN d' lo = gN d p := by rw [r.out lo (by omega), g0]
  unfold iO
  rw [show lp (fun s : List Int × Int × Int => cR (lo : Int) s.1 s.2.1 s.2.2) ((List.set (List.set d lo (List.getD d p default)) p (List.getD d lo default)), ((lo + 1 : Nat) : Int), ((hi - 1 : Nat) : Int)) = some (d', ((j' + 1 : Nat) : Int)) from e]
  refine ⟨j' + 1, d', rfl, by omega, by omega, r0.trans (r.mono (by omega) (Nat.le_refl _)), fun k k1 k2 => ?_, fun k k1 k2 => ?_⟩
  · rw [← ga]
    by_cases hk : k = lo
    · rw [hk]; exact Int.le_refl _
    · exact pp.lo k (by omega) k2
  · rw [← ga]; exact pp.up k (by omega) k2

theorem PV {lo i : Nat} {d : List Int} : ∀ (n i' : Nat), i' - i = n → oK lo i d → lo < i → (∀ k, i ≤ k → k < i' → gN d (k - 1) ≤ gN d k) → oK lo i' d
  | 0, i', h, hs, _, _ => fun p q p1 p2 p3 => hs p q p1 p2 (by omega)
  | n + 1, i', h, hs, hl, hk => by
    have ih := PV (d := d) n (i' - 1) (by omega) hs hl fun k k1 k2 => hk k k1 (by omega)
    intro p q p1 p2 p3
    by_cases hq : q = i' - 1
    · by_cases hp : p = q
      · rw [hp]; exact Int.le_refl _
      · have h1 := hk q (by omega) (by omega)
        have h2 := ih p (q - 1) p1 (by omega) (by omega)
        omega
    · exact ih p q p1 p2 (by omega)

theorem XB {lo hi : Nat} {d : List Int} (x : Int) (hb : hi ≤ d.length) (hl : d.length < 2305843009213693951) : ∀ (n i : Nat), hi - i = n → 1 ≤ i → i ≤ hi →
    ∃ i' : Nat, lp (fun s : List Int × Int => cK (lo : Nat) (hi : Nat) x s.1 s.2) (d, (i : Int)) = some (d, (i' : Int)) ∧ i ≤ i' ∧ i' ≤ hi ∧ (∀ k, i ≤ k → k < i' → gN d (k - 1) ≤ gN d k) := by
  intro n
  induction n with
  | zero =>
    intro i h1 h2 h3
    refine ⟨i, cO ?_, Nat.le_refl _, h3, fun k k1 k2 => by omega⟩
    show cK _ _ _ _ _ = _
    have : decide ((i : Int) < (hi : Int)) = false := by simp; omega
    simp only [cK, this]
    rw [aK (fun h => by cases h), aK (fun h => by cases h)]
    rfl
  | succ n ih =>
    intro i h1 h2 h3
    have hd : decide ((i : Int) < (hi : Int)) = true := by simp; omega
    have hs : cK (lo : Nat) (hi : Nat) x d (i : Nat) = if gN d i < gN d (i - 1) then some (.inr (d, (i : Int))) else some (.inl (d, ((i + 1 : Nat) : Int))) := by
      unfold cK
      rw [hd, wrN (x := (i : Int) - 1) (n := i - 1) (by omega) (by omega), wrN (x := (i : Int) + 1) (n := i + 1) (by omega) (by omega), aK fun _ => asN (by omega), aK fun _ => asN (by omega)]
      simp only [cX, cond_true, qT, Option.bind_some, Bool.true_and, Int.toNat_natCast, gN]
      by_cases h : d.getD i default < d.getD (i - 1) default <;> simp [h]
    by_cases h : gN d i < gN d (i - 1)
    · rw [if_pos h] at hs
      exact ⟨i, cO hs, Nat.le_refl _, h3, fun k k1 k2 => by omega⟩
    · rw [if_neg h] at hs
      obtain ⟨i', e, a1, a2, a3⟩ := ih (i + 1) (by omega) (by omega) (by omega)
      refine ⟨i', (fI hs).trans e, by omega, a2, fun k k1 k2 => ?_⟩
      by_cases hk : k = i
      · rw [hk]; omega
      · exact a3 k (by omega) k2

theorem DX {lo hi : Nat} {d d' : List Int} (r : Rel lo hi d d') (h : lo = 0 ∨ ∀ k, lo ≤ k → k < hi → gN d (lo - 1) ≤ gN d k) : lo = 0 ∨ ∀ k, lo ≤ k → k < hi → gN d' (lo - 1) ≤ gN d' k := by
  by_cases h0 : lo = 0
  · exact .inl h0
  · rcases h with h | h
    · exact .inl h
    · exact .inr fun k k1 k2 => by
        rw [r.out (lo - 1) (by omega)]
        exact r.all (p := fun v => gN d (lo - 1) ≤ v) h k k1 k2

theorem XA {lo hi i : Nat} (x y : Int) : ∀ (j : Nat) (d : List Int), lo ≤ j → j ≤ i → i < d.length → d.length < 2305843009213693951 → CG lo j i d → (lo = 0 ∨ ∀ k, lo ≤ k → k ≤ i → gN d (lo - 1) ≤ gN d k) →
    ∃ d', lp (fun s : List Int × Int => cE (lo : Nat) (hi : Nat) x y s.1 s.2) (d, (j : Int)) = some d' ∧ Rel lo (i + 1) d d' ∧ oK lo (i + 1) d' := by
  intro j
  induction j with
  | zero =>
    intro d h1 h2 h3 h4 h5 h6
    refine ⟨d, cO ?_, Rel.refl .., h5.done h1 (by omega)⟩
    show cE _ _ _ _ _ _ = _
    have : decide ((1 : Int) ≤ ((0 : Nat) : Int)) = false := by simp
    simp only [cE, this, cond_false]
  | succ j ih =>
    intro d h1 h2 h3 h4 h5 h6
    have hd : decide ((1 : Int) ≤ ((j + 1 : Nat) : Int)) = true := by simp; omega
    have hs : cE (lo : Nat) (hi : Nat) x y d ((j + 1 : Nat) : Int) = if gN d (j + 1) < gN d j then some (.inl (swp d (j + 1) j, (j : Int))) else some (.inr d) := by
      unfold cE
      rw [hd, cond_true, wrN (x := ((j + 1 : Nat) : Int) - 1) (n := j) (by omega) (by omega), aK (asN (by omega)), aK (asN (by omega))]
      simp only [qT, Option.bind_some, Int.toNat_natCast, gN]
      by_cases h : d.getD (j + 1) default < d.getD j default
      · simp only [h, decide_true, Bool.not_true, cond_false, if_true]
        rw [aK (asN (by omega)), aK (asN (by omega)), aK (asN (by omega)), aK (asN (by omega))]
        rfl
      · simp only [h, decide_false, Bool.not_false, cond_true, if_false]
    by_cases h : gN d (j + 1) < gN d j
    · rw [if_pos h] at hs
      have hlo : lo < j + 1 := by
        rcases h6 with h6 | h6
        · omega
        · rcases Nat.lt_or_ge lo (j + 1) with hh | hh
          · exact hh
          · have : lo = j + 1 := by omega
            have h7 := h6 (j + 1) (by omega) h2
            rw [this] at h7
            simp only [Nat.add_sub_cancel] at h7
            omega
      have r1 : Rel lo (i + 1) d (swp d (j + 1) j) := Rel.swp (i := j + 1) (j := j) (by omega) (by omega) (by omega) (by omega)
      obtain ⟨d', e, r, s⟩ := ih (swp d (j + 1) j) (by omega) (by omega) (by rw [gL]; exact h3) (by rw [gL]; exact h4) (h5.next hlo h2 h3 h) ((DX r1 (h6.imp id fun h k a b => h k a (by omega))).imp id fun h k a b => h k a (by omega))
      exact ⟨d', (fI hs).trans e, r1.trans r, s⟩
    · rw [if_neg h] at hs
      exact ⟨d, cO hs, Rel.refl .., h5.done h1 fun hh => h hh.2⟩

theorem ZQ {lo hi i : Nat} (x y : Int) : ∀ (n j : Nat) (d : List Int), hi - j = n → i < j → hi ≤ d.length → d.length < 2305843009213693951 →
    ∃ d', lp (fun s : List Int × Int => cL (lo : Nat) (hi : Nat) x y s.1 s.2) (d, (j : Int)) = some d' ∧ Rel i hi d d' := by
  intro n
  induction n with
  | zero =>
    intro j d h1 h2 h3 h4
    refine ⟨d, cO ?_, Rel.refl ..⟩
    show cL _ _ _ _ _ _ = _
    have : decide ((j : Int) < (hi : Int)) = false := by simp; omega
    simp only [cL, this, cond_false]
  | succ n ih =>
    intro j d h1 h2 h3 h4
    have hd : decide ((j : Int) < (hi : Int)) = true := by simp; omega
    have hs : cL (lo : Nat) (hi : Nat) x y d (j : Nat) = if gN d j < gN d (j - 1) then some (.inl (swp d j (j - 1), ((j + 1 : Nat) : Int))) else some (.inr d) := by
      unfold cL
      rw [hd, cond_true, wrN (x := (j : Int) - 1) (n := j - 1) (by omega) (by omega), wrN (x := (j : Int) + 1) (n := j + 1) (by omega) (by omega), aK (asN (by omega)), aK (asN (by omega))]
      simp only [qT, Option.bind_some, Int.toNat_natCast, gN]
      by_cases h : d.getD j default < d.getD (j - 1) default
      · simp only [h, decide_true, Bool.not_true, cond_false, if_true]
        rw [aK (asN (by omega)), aK (asN (by omega)), aK (asN (by omega)), aK (asN (by omega))]
        rfl
      · simp only [h, decide_false, Bool.not_false, cond_true, if_false]
    by_cases h : gN d j < gN d (j - 1)
    · rw [if_pos h] at hs
      obtain ⟨d', e, r⟩ := ih (j + 1) (swp d j (j - 1)) (by omega) (by omega) (by rw [gL]; exact h3) (by rw [gL]; exact h4)
      exact ⟨d', (fI hs).trans e, (Rel.swp (i := j) (j := j - 1) (by omega) (by omega) (by omega) (by omega)).trans r⟩
    · rw [if_neg h] at hs
      exact ⟨d, cO hs, Rel.refl ..⟩

theorem TH {lo hi i : Nat} (x : Int) {d : List Int} (h1 : lo < i) (h2 : i < hi) (h3 : hi ≤ d.length) (h4 : d.length < 2305843009213693951) :
    ∃ d', cD d (lo : Nat) (hi : Nat) (i : Nat) x = some (.inl (d', (i : Int), IntKind.i64.wrap (x + 1))) ∧ Rel i hi d d' := by
  unfold cD
  rw [wrN (x := (hi : Int) - (i : Int)) (n := hi - i) (by omega) (by omega)]
  by_cases h : (2 : Int) ≤ ((hi - i : Nat) : Int)
  · simp only [h, decide_true, cond_true]
    unfold fV
    rw [wrN (x := (i : Int) + 1) (n := i + 1) (by omega) (by omega)]
    obtain ⟨d', e, r⟩ := ZQ (lo := lo) (hi := hi) (i := i) (i : Int) x (hi - (i + 1)) (i + 1) d rfl (by omega) h3 h4
    rw [e]
    exact ⟨d', rfl, r⟩
  · simp only [h, decide_false, cond_false]
    exact ⟨d, rfl, Rel.refl ..⟩

theorem WD {lo hi i : Nat} (x : Int) {d : List Int} (h1 : lo < i) (h2 : i ≤ hi) (h3 : hi ≤ d.length) (h4 : d.length < 2305843009213693951) (hs : oK lo i d) (hb : lo = 0 ∨ ∀ k, lo ≤ k → k < hi → gN d (lo - 1) ≤ gN d k) :
    (∃ (fl : Bool) (d' : List Int), cW d (lo : Nat) (hi : Nat) (i : Nat) x = some (.inr (.inr (fl, d'))) ∧ Rel lo hi d d' ∧ (fl = true → oK lo hi d')) ∨
    (∃ (d' : List Int) (i' : Nat), cW d (lo : Nat) (hi : Nat) (i : Nat) x = some (.inl (d', (i' : Int), IntKind.i64.wrap (x + 1))) ∧ Rel lo hi d d' ∧ lo < i' ∧ i' ≤ hi ∧ oK lo i' d') := by
  unfold cW
  obtain ⟨i', e, a1, a2, a3⟩ := XB (lo := lo) (hi := hi) x h3 h4 (hi - i) i rfl (by omega) h2
  rw [e]
  simp only [Option.bind_some]
  have hs' := PV (i' - i) i' rfl hs h1 a3
  unfold eD
  by_cases hi' : i' = hi
  · have : decide ((i' : Int) = (hi : Int)) = true := by simp; omega
    rw [this, cond_true]
    left
    exact ⟨true, d, rfl, Rel.refl .., fun _ => hi' ▸ hs'⟩
  · have hne : decide ((i' : Int) = (hi : Int)) = false := by simp; omega
    rw [hne, cond_false, wrN (x := (hi : Int) - (lo : Int)) (n := hi - lo) (by omega) (by omega)]
    by_cases h50 : ((hi - lo : Nat) : Int) < 50
    · simp only [h50, decide_true, cond_true]
      left
      exact ⟨false, d, rfl, Rel.refl .., fun h => by cases h⟩
    · simp only [h50, decide_false, cond_false]
      rw [wrN (x := (i' : Int) - 1) (n := i' - 1) (by omega) (by omega), wrN (x := (i' : Int) - (lo : Int)) (n := i' - lo) (by omega) (by omega)]
      simp only [Int.toNat_natCast]
      rw [aK (asN (by omega)), aK (asN (by omega)), aK (asN (by omega)), aK (asN (by omega))]
      have r1 : Rel lo hi d (swp d i' (i' - 1)) := Rel.swp (i := i') (j := i' - 1) (by omega) (by omega) (by omega) (by omega)
      have l1 : (swp d i' (i' - 1)).length = d.length := gL ..
      have g := rR (d := d) (i := i') (j := i' - 1) (by omega) (by omega)
      right
      by_cases hge : (2 : Int) ≤ ((i' - lo : Nat) : Int)
      · simp only [hge, decide_true, cond_true]
        unfold fT
        have ins : CG lo (i' - 1) (i' - 1) (swp d i' (i' - 1)) := ⟨fun p q p1 p2 p3 p4 p5 => by
          rw [g, g, if_neg p4, if_neg p5, if_neg (by omega), if_neg (by omega)]
          exact hs' p q p1 p2 (by omega), fun q q1 q2 => by omega⟩
        obtain ⟨d2, e2, r2, s2⟩ := XA (lo := lo) (hi := hi) (i := i' - 1) (i' : Int) x (i' - 1) (swp d i' (i' - 1)) (by omega) (Nat.le_refl _) (by rw [l1]; omega) (by rw [l1]; exact h4) ins ((DX r1 hb).imp id fun h k a b => h k a (by omega))
        have e2' : lp (fun s : List Int × Int => cE (lo : Int) (hi : Int) (i' : Int) x s.1 s.2) ((List.set (List.set d i' (List.getD d (i' - 1) default)) (i' - 1) (List.getD d i' default)), ((i' - 1 : Nat) : Int)) = some d2 := e2
        rw [e2']
        simp only [Option.bind_some]
        rw [show i' - 1 + 1 = i' by omega] at r2 s2
        have l2 : d2.length = d.length := by rw [r2.len, l1]
        obtain ⟨d3, e3, r3⟩ := TH (lo := lo) (hi := hi) (i := i') x (d := d2) (by omega) (by omega) (by omega) (by omega)
        rw [e3]
        refine ⟨d3, i', rfl, (r1.trans (r2.mono (Nat.le_refl _) (by omega))).trans (r3.mono (by omega) (Nat.le_refl _)), by omega, a2, fun p q p1 p2 p3 => ?_⟩
        rw [r3.out p (by omega), r3.out q (by omega)]
        exact s2 p q p1 p2 p3
      · simp only [hge, decide_false, cond_false]
        obtain ⟨d3, e3, r3⟩ := TH (lo := lo) (hi := hi) (i := i') x (d := swp d i' (i' - 1)) (by omega) (by omega) (by omega) (by omega)
        have e3' : cD (List.set (List.set d i' (List.getD d (i' - 1) default)) (i' - 1) (List.getD d i' default)) (lo : Int) (hi : Int) (i' : Int) x = _ := e3
        rw [e3']
        refine ⟨d3, i', rfl, r1.trans (r3.mono (by omega) (Nat.le_refl _)), by omega, a2, ?_⟩
        have : i' = lo + 1 := by omega
        rw [this]; exact FJ lo d3

theorem ZJ {lo hi : Nat} : ∀ (n x i : Nat) (d : List Int), 5 - x = n → lo < i → i ≤ hi → hi ≤ d.length → d.length < 2305843009213693951 → oK lo i d → (lo = 0 ∨ ∀ k, lo ≤ k → k < hi → gN d (lo - 1) ≤ gN d k) → x ≤ 5 →
    ∃ (fl : Bool) (d' : List Int), (lp (fun s : List Int × Int × Int => bV (lo : Nat) (hi : Nat) s.1 s.2.1 s.2.2) (d, (i : Int), (x : Int))).bind (Sum.elim (fun rr => eC rr) (fun rr => some (rr.1, rr.2))) = some (fl, d') ∧ Rel lo hi d d' ∧ (fl = true → oK lo hi d') := by
  intro n
  induction n with
  | zero =>
    intro x i d h1 h2 h3 h4 h5 h6 h7 h8
    have hs : bV (lo : Nat) (hi : Nat) d (i : Nat) (x : Nat) = some (.inr (.inl d)) := by
      have : decide ((x : Int) < 5) = false := by simp; omega
      simp only [bV, this, cond_false]
    rw [cO (show (fun s : List Int × Int × Int => bV (lo : Nat) (hi : Nat) s.1 s.2.1 s.2.2) (d, (i : Int), (x : Int)) = _ from hs)]
    exact ⟨false, d, rfl, Rel.refl .., fun h => by cases h⟩
  | succ n ih =>
    intro x i d h1 h2 h3 h4 h5 h6 h7 h8
    have hl2 : bV (lo : Nat) (hi : Nat) d (i : Nat) (x : Nat) = cW d (lo : Nat) (hi : Nat) (i : Nat) (x : Nat) := by
      have : decide ((x : Int) < 5) = true := by simp; omega
      simp only [bV, this, cond_true]
    rcases WD (lo := lo) (hi := hi) (x : Int) h2 h3 h4 h5 h6 h7 with ⟨fl, d', e, r, s⟩ | ⟨d', i', e, r, k1, k2, s⟩
    · rw [cO (show (fun s : List Int × Int × Int => bV (lo : Nat) (hi : Nat) s.1 s.2.1 s.2.2) (d, (i : Int), (x : Int)) = _ from hl2.trans e)]
      exact ⟨fl, d', rfl, r, s⟩
    · rw [wrN (x := (x : Int) + 1) (n := x + 1) (by omega) (by omega)] at e
      obtain ⟨fl, d2, e2, r2, s2⟩ := ih (x + 1) i' d' (by omega) k1 k2 (by rw [r.len]; exact h4) (by rw [r.len]; exact h5) s (DX r h7) (by omega)
      rw [fI (show (fun s : List Int × Int × Int => bV (lo : Nat) (hi : Nat) s.1 s.2.1 s.2.2) (d, (i : Int), (x : Int)) = _ from hl2.trans e)]
      exact ⟨fl, d2, e2, r.trans r2, s2⟩

theorem WM {lo hi : Nat} {d : List Int} (h0 : lo < hi) (h1 : hi ≤ d.length) (h2 : d.length < 2305843009213693951) (hb : lo = 0 ∨ ∀ k, lo ≤ k → k < hi → gN d (lo - 1) ≤ gN d k) :
    ∃ (fl : Bool) (d' : List Int), eO d (lo : Int) (hi : Int) = some (fl, d') ∧ Rel lo hi d d' ∧ (fl = true → oK lo hi d') := by
  unfold eO fU
  rw [wrN (x := (lo : Int) + 1) (n := lo + 1) (by omega) (by omega)]
  exact ZJ (lo := lo) (hi := hi) (5 - 0) 0 (lo + 1) d rfl (by omega) (by omega) h1 h2 (FJ lo d) hb (by omega)

end Go.Abs
namespace Go.Abs
open Go
abbrev PS := List Int × Int × Int × Int × Bool × Bool

abbrev PR := List Int → Int → Int → Int → Option (List Int)

def wL (a b : Nat) (d d' : List Int) : Prop := Rel a b d d' ∧ oK a b d'

structure vZ (a b lim : Nat) (d : List Int) : Prop where
  ab : a ≤ b
  bl : b ≤ d.length
  len : d.length < 2305843009213693951
  bnd : a = 0 ∨ ∀ k, a ≤ k → k < b → gN d (a - 1) ≤ gN d k
  lim : lim ≤ 100

def DY (rec : PR) (N : Nat) : Prop := ∀ (d : List Int) (a b lim : Nat), vZ a b lim d → (rec d (a : Int) (b : Int) (lim : Int) = none ∧ N ≤ b - a) ∨ ∃ d', rec d (a : Int) (b : Int) (lim : Int) = some d' ∧ wL a b d d'

def AQ (N a b : Nat) (d : List Int) (F : Option (PS ⊕ List Int)) : Prop :=
  (F = none ∧ N + 1 ≤ b - a) ∨ (∃ d', F = some (.inr d') ∧ wL a b d d') ∨
  ∃ (d' : List Int) (a' b' lim' : Nat) (wb wp : Bool), F = some (.inl (d', (a' : Int), (b' : Int), (lim' : Int), wb, wp)) ∧ b' - a' < b - a ∧ vZ a' b' lim' d' ∧ ∀ d'', wL a' b' d' d'' → wL a b d d''

theorem wL.pre {a b : Nat} {d d1 d' : List Int} (r : Rel a b d d1) (h : wL a b d1 d') : wL a b d d' := ⟨r.trans h.1, h.2⟩

theorem AQ.pre {N a b : Nat} {d d1 : List Int} {F : Option (PS ⊕ List Int)} (r : Rel a b d d1) (h : AQ N a b d1 F) : AQ N a b d F := by
  rcases h with h | ⟨d', h1, h2⟩ | ⟨d', a', b', lim', wb, wp, h1, h2, h3, h4⟩
  · exact .inl h
  · exact .inr (.inl ⟨d', h1, h2.pre r⟩)
  · exact .inr (.inr ⟨d', a', b', lim', wb, wp, h1, h2, h3, fun d'' hg => (h4 d'' hg).pre r⟩)

theorem vZ.rel {a b lim : Nat} {d d1 : List Int} (h : vZ a b lim d) (r : Rel a b d d1) : vZ a b lim d1 :=
  ⟨h.ab, by rw [r.len]; exact h.bl, by rw [r.len]; exact h.len, DX r h.bnd, h.lim⟩

theorem NW {a m b : Nat} {d : List Int} (hm : m < b) (h1 : ∀ k, a ≤ k → k < m → gN d k ≤ gN d m) (h2 : ∀ k, m < k → k < b → gN d m ≤ gN d k) (s1 : oK a m d) (s2 : oK (m + 1) b d) : oK a b d := by
  intro p q p1 p2 p3
  by_cases hq : q < m
  · exact s1 p q p1 p2 hq
  · by_cases hp : m < p
    · exact s2 p q hp p2 p3
    · have g1 : gN d p ≤ gN d m := by
        by_cases e : p = m
        · rw [e]; exact Int.le_refl _
        · exact h1 p p1 (by omega)
      have g2 : gN d m ≤ gN d q := by
        by_cases e : q = m
        · rw [e]; exact Int.le_refl _
        · exact h2 q (by omega) p3
      omega

theorem TB {rec : PR} {N a b lim p : Nat} {d : List Int} (hrec : DY rec N) (hv : vZ a b lim d) (h12 : 12 < b - a) (hp : a ≤ p ∧ p < b) (wb wp : Bool) (len : Int) :
    AQ N a b d (gI rec d (a : Int) (b : Int) (lim : Int) wb wp len (p : Int)) := by
  have hb := hv.bl; have hl := hv.len
  -- with all equal ones on the left
  have eqc : 0 < a → ¬ gN d (a - 1) < gN d p → AQ N a b d ((eP d (a : Int) (b : Int) (p : Int)).bind fun x20 => some (.inl (x20.2, x20.1, (b : Int), (lim : Int), wb, wp))) := by
    intro ha hn
    obtain ⟨m, d', e, m1, m2, r, q1, q2⟩ := KN (lo := a) (hi := b) (p := p) (d := d) (by omega) hb hl hp
    have hall : ∀ k, a ≤ k → k < b → gN d p ≤ gN d' k := by
      refine r.all (p := fun v => gN d p ≤ v) fun k k1 k2 => ?_
      rcases hv.bnd with h | h
      · omega
      · have := h k k1 k2; omega
    rw [e]
    refine .inr (.inr ⟨d', m, b, lim, wb, wp, rfl, by omega, ⟨m2, by rw [r.len]; exact hb, by rw [r.len]; exact hl, .inr fun k k1 k2 => ?_, hv.lim⟩, fun d'' hg => ⟨r.trans (hg.1.mono (by omega) (Nat.le_refl _)), fun x y x1 x2 x3 => ?_⟩⟩)
    · have := q1 (m - 1) (by omega) (by omega); have := q2 k k1 k2; omega
    · by_cases hx : m ≤ x
      · exact hg.2 x y hx x2 x3
      · rw [hg.1.out x (by omega)]
        have g1 := q1 x x1 (by omega)
        by_cases hy : y < m
        · rw [hg.1.out y (by omega)]
          have g2 := hall y (by omega) (by omega); omega
        · have g2 := hg.1.all (p := fun v => gN d p < v) q2 y (by omega) x3
          omega
  -- a partition, and the lesser part first
  have ptc : AQ N a b d ((fZ d (a : Int) (b : Int) (p : Int)).bind fun x23 =>
      aY ((8 : Int) ≠ 0) <|
      cond (decide ((IntKind.i64.wrap (x23.1.1 - (a : Int))) < (IntKind.i64.wrap ((b : Int) - x23.1.1))))
      ((rec x23.2 (a : Int) x23.1.1 (lim : Int)).bind fun x28 =>
      some (.inl (x28, IntKind.i64.wrap (x23.1.1 + (1 : Int)), (b : Int), (lim : Int), decide ((IntKind.i64.wrap (Int.tdiv len (8 : Int))) ≤ (IntKind.i64.wrap (x23.1.1 - (a : Int)))), x23.1.2)))
      ((rec x23.2 (IntKind.i64.wrap (x23.1.1 + (1 : Int))) (b : Int) (lim : Int)).bind fun x31 =>
      some (.inl (x31, (a : Int), x23.1.1, (lim : Int), decide ((IntKind.i64.wrap (Int.tdiv len (8 : Int))) ≤ (IntKind.i64.wrap ((b : Int) - x23.1.1))), x23.1.2)))) := by
    obtain ⟨m, fl, d1, e, m1, m2, r, q1, q2⟩ := MI (lo := a) (hi := b) (p := p) (d := d) (by omega) hb hl hp
    have hv1 := hv.rel r
    rw [e]
    simp only [Option.bind_some]
    rw [aK (by decide), wrN (x := (m : Int) + 1) (n := m + 1) (by omega) (by omega)]
    have vL : vZ a m lim d1 := ⟨m1, by have := hv1.bl; omega, hv1.len, hv1.bnd.imp id fun h k k1 k2 => h k k1 (by omega), hv.lim⟩
    have vR : vZ (m + 1) b lim d1 := ⟨by omega, hv1.bl, hv1.len, .inr fun k k1 k2 => by simpa using q2 k (by omega) k2, hv.lim⟩
    cases decide ((IntKind.i64.wrap ((m : Int) - (a : Int))) < (IntKind.i64.wrap ((b : Int) - (m : Int)))) with
    | true =>
      rw [cond_true]
      rcases hrec d1 a m lim vL with ⟨hn, hN⟩ | ⟨d2, e2, g2⟩
      · rw [hn]; exact .inl ⟨rfl, by omega⟩
      · rw [e2]
        simp only [Option.bind_some]
        have top : gN d2 m = gN d1 m := g2.1.out m (by omega)
        refine .inr (.inr ⟨d2, m + 1, b, lim, _, _, rfl, by omega, ⟨by omega, by rw [g2.1.len]; exact hv1.bl, by rw [g2.1.len]; exact hv1.len, .inr fun k k1 k2 => ?_, hv.lim⟩, fun d3 hg => ⟨(r.trans (g2.1.mono (Nat.le_refl _) (by omega))).trans (hg.1.mono (by omega) (Nat.le_refl _)), ?_⟩⟩)
        · rw [show m + 1 - 1 = m by omega, top, g2.1.out k (by omega)]; exact q2 k (by omega) k2
        · have o3 : ∀ k, k ≤ m → gN d3 k = gN d2 k := fun k hk => hg.1.out k (by omega)
          refine NW m2 (fun k k1 k2 => ?_) (fun k k1 k2 => ?_) (fun x y x1 x2 x3 => by rw [o3 x (by omega), o3 y (by omega)]; exact g2.2 x y x1 x2 x3) hg.2
          · rw [o3 k (by omega), o3 m (by omega), top]
            exact g2.1.all (p := fun v => v ≤ gN d1 m) q1 k k1 k2
          · rw [o3 m (by omega), top]
            exact hg.1.all (p := fun v => gN d1 m ≤ v) (fun k k1 k2 => by rw [g2.1.out k (by omega)]; exact q2 k (by omega) k2) k (by omega) k2
    | false =>
      rw [cond_false]
      rcases hrec d1 (m + 1) b lim vR with ⟨hn, hN⟩ | ⟨d2, e2, g2⟩
      · rw [hn]; exact .inl ⟨rfl, by omega⟩
      · rw [e2]
        simp only [Option.bind_some]
        have low : ∀ k, k ≤ m → gN d2 k = gN d1 k := fun k hk => g2.1.out k (by omega)
        refine .inr (.inr ⟨d2, a, m, lim, _, _, rfl, by omega, ⟨m1, by rw [g2.1.len]; have := hv1.bl; omega, by rw [g2.1.len]; exact hv1.len, ?_, hv.lim⟩, fun d3 hg => ⟨(r.trans (g2.1.mono (by omega) (Nat.le_refl _))).trans (hg.1.mono (Nat.le_refl _) (by omega)), ?_⟩⟩)
        · rcases hv1.bnd with h | h
          · exact .inl h
          · exact .inr fun k k1 k2 => by rw [low (a - 1) (by omega), low k (by omega)]; exact h k k1 (by omega)
        · have o3 : ∀ k, m ≤ k → gN d3 k = gN d2 k := fun k hk => hg.1.out k (by omega)
          refine NW m2 (fun k k1 k2 => ?_) (fun k k1 k2 => ?_) hg.2 (fun x y x1 x2 x3 => by rw [o3 x (by omega), o3 y (by omega)]; exact g2.2 x y x1 x2 x3)
          · rw [o3 m (Nat.le_refl _), low m (Nat.le_refl _)]
            exact hg.1.all (p := fun v => v ≤ gN d1 m) (fun k k1 k2 => by rw [low k (by omega)]; exact q1 k k1 k2) k k1 k2
          · rw [o3 m (Nat.le_refl _), low m (Nat.le_refl _), o3 k (by omega)]
            exact g2.1.all (p := fun v => gN d1 m ≤ v) (fun k k1 k2 => q2 k (by omega) k2) k (by omega) k2
  unfold gI
  by_cases ha : 0 < a
  · have hd : decide ((0 : Int) < (a : Int)) = true := by simp; omega
    rw [hd, wrN (x := (a : Int) - 1) (n := a - 1) (by omega) (by omega), aK fun _ => asN (by omega), aK fun _ => asN (by omega)]
    simp only [cX, cond_true, qT, Option.bind_some, Bool.true_and, Int.toNat_natCast]
    by_cases hlt : gN d (a - 1) < gN d p
    · simp only [gN] at hlt
      simp only [hlt, decide_true, Bool.not_true, cond_false]
      exact ptc
    · have := eqc ha hlt
      simp only [gN] at hlt
      simp only [hlt, decide_false, Bool.not_false, cond_true]
      exact this
  · have hd : decide ((0 : Int) < (a : Int)) = false := by simp; omega
    rw [hd, aK (fun h => by cases h), aK (fun h => by cases h)]
    simp only [cX, cond_false, Option.bind_some, Bool.false_and]
    exact ptc

theorem TP {rec : PR} {N a b lim p : Nat} {d : List Int} (hrec : DY rec N) (hv : vZ a b lim d) (h12 : 12 < b - a) (hp : a ≤ p ∧ p < b) (wb wp : Bool) (len hint : Int) :
    AQ N a b d (gJ rec d (a : Int) (b : Int) (lim : Int) wb wp len (p : Int) hint) := by
  unfold gJ
  cases ((wb && wp) && (decide (hint = (1 : Int)))) with
  | false => exact TB hrec hv h12 hp wb wp len
  | true =>
    rw [cond_true]
    obtain ⟨fl, d', e, r, s⟩ := WM (lo := a) (hi := b) (d := d) (by omega) hv.bl hv.len hv.bnd
    rw [e]
    simp only [Option.bind_some]
    cases fl with
    | true => exact .inr (.inl ⟨d', rfl, r, s rfl⟩)
    | false => exact (TB hrec (hv.rel r) h12 hp wb wp len).pre r

theorem UO {rec : PR} {N a b lim : Nat} {d : List Int} (hrec : DY rec N) (hv : vZ a b lim d) (h12 : 12 < b - a) (wb wp : Bool) (len : Int) :
    AQ N a b d (gK rec d (a : Int) (b : Int) (lim : Int) wb wp len) := by
  have hb := hv.bl; have hl := hv.len
  unfold gK
  obtain ⟨p, h, e, p1, p2⟩ := SF (lo := a) (hi := b) (d := d) h12 hb hl
  rw [e]
  simp only [Option.bind_some]
  by_cases h2 : h = 2
  · simp only [h2, decide_true, cond_true]
    obtain ⟨d', e2, r⟩ := TF (lo := a) (hi := b) (d := d) (by omega) hb (by omega)
    rw [e2]
    simp only [Option.bind_some]
    rw [wrN (x := (b : Int) - 1) (n := b - 1) (by omega) (by omega), wrN (x := (p : Int) - (a : Int)) (n := p - a) (by omega) (by omega), wrN (x := ((b - 1 : Nat) : Int) - ((p - a : Nat) : Int)) (n := b - 1 - (p - a)) (by omega) (by omega)]
    exact (TP hrec (hv.rel r) h12 ⟨by omega, by omega⟩ wb wp len 1).pre r
  · simp only [h2, decide_false, cond_false]
    exact TP hrec hv h12 ⟨p1, p2⟩ wb wp len h

theorem aAo {rec : PR} {N a b lim : Nat} {d : List Int} (hrec : DY rec N) (hv : vZ a b lim d) (wb wp : Bool) :
    AQ N a b d (eA rec d (a : Int) (b : Int) (lim : Int) wb wp) := by
  have hb := hv.bl; have hl := hv.len; have hab := hv.ab
  unfold eA
  rw [wrN (x := (b : Int) - (a : Int)) (n := b - a) (by omega) (by omega)]
  by_cases h12 : ((b - a : Nat) : Int) ≤ 12
  · simp only [h12, decide_true, cond_true]
    obtain ⟨d', e, r, s⟩ := WE (lo := a) (hi := b) (d := d) hb (by omega) hab
    rw [e]
    exact .inr (.inl ⟨d', rfl, r, s⟩)
  · simp only [h12, decide_false, cond_false]
    by_cases h0 : lim = 0
    · have : decide ((lim : Int) = 0) = true := by simp; exact h0
      rw [this, cond_true]
      obtain ⟨d', e, r, s⟩ := TJ (lo := a) (hi := b) (d := d) (by omega) hb hl
      rw [e]
      exact .inr (.inl ⟨d', rfl, r, s⟩)
    · have : decide ((lim : Int) = 0) = false := by simp; exact h0
      rw [this, cond_false]
      cases wb with
      | true => exact UO hrec hv (by omega) true wp _
      | false =>
        simp only [Bool.not_false, cond_true]
        obtain ⟨d', e, r⟩ := SZ (lo := a) (hi := b) (d := d) (by omega) hb hl
        rw [e]
        simp only [Option.bind_some]
        have hlim := hv.lim
        rw [wrN (x := (lim : Int) - 1) (n := lim - 1) (by omega) (by omega)]
        have hv' := hv.rel r
        exact (UO hrec ⟨hv'.ab, hv'.bl, hv'.len, hv'.bnd, by omega⟩ (by omega) false wp _).pre r

theorem ZE {S R : Type} {body : S → Option (S ⊕ R)} {s : S} (h : body s = none) : lp body s = none := by
  cases e : lp body s with
  | none => rfl
  | some r =>
    obtain ⟨k, hk⟩ := DR.1 e
    cases k with
    | zero => simp [iter] at hk
    | succ k => simp [iter, h] at hk

theorem ZO {rec : PR} {N : Nat} (hrec : DY rec N) : ∀ (n a b lim : Nat) (d : List Int) (wb wp : Bool), b - a = n → vZ a b lim d →
    (lp (fun s : PS => eA rec s.1 s.2.1 s.2.2.1 s.2.2.2.1 s.2.2.2.2.1 s.2.2.2.2.2) (d, (a : Int), (b : Int), (lim : Int), wb, wp) = none ∧ N + 1 ≤ b - a) ∨
    ∃ d', lp (fun s : PS => eA rec s.1 s.2.1 s.2.2.1 s.2.2.2.1 s.2.2.2.2.1 s.2.2.2.2.2) (d, (a : Int), (b : Int), (lim : Int), wb, wp) = some d' ∧ wL a b d d' := by
  intro n
  induction n using Nat.strongRecOn with
  | ind n ih =>
    intro a b lim d wb wp hn hv
    rcases aAo hrec hv wb wp with ⟨h1, h2⟩ | ⟨d', h1, h2⟩ | ⟨d', a', b', lim', wb', wp', h1, h2, h3, h4⟩
    · exact .inl ⟨ZE h1, h2⟩
    · exact .inr ⟨d', cO h1, h2⟩
    · rw [fI (show (fun s : PS => eA rec s.1 s.2.1 s.2.2.1 s.2.2.2.1 s.2.2.2.2.1 s.2.2.2.2.2) (d, (a : Int), (b : Int), (lim : Int), wb, wp) = _ from h1)]
      rcases ih (b' - a') (by omega) a' b' lim' d' wb' wp' rfl h3 with ⟨g1, g2⟩ | ⟨d2, g1, g2⟩
      · exact .inl ⟨g1, by omega⟩
      · exact .inr ⟨d2, g1, h4 d2 g2⟩

theorem NQ : ∀ k : Nat, DY (dD k) k
  | 0 => fun _ _ _ _ _ => .inl ⟨rfl, Nat.zero_le _⟩
  | k + 1 => fun d a b lim hv => by
    show (fO (dD k) d a b lim = none ∧ _) ∨ ∃ d', fO (dD k) d a b lim = some d' ∧ _
    unfold fO kN
    rcases ZO (NQ k) (b - a) a b lim d true true rfl hv with ⟨h1, h2⟩ | ⟨d', h1, h2⟩
    · rw [h1]; exact .inl ⟨rfl, h2⟩
    · rw [h1]; exact .inr ⟨d', rfl, h2⟩

theorem ZL {a b lim : Nat} {d : List Int} (hv : vZ a b lim d) : ∃ d', jD d (a : Int) (b : Int) (lim : Int) = some d' ∧ wL a b d d' := by
  unfold jD
  obtain ⟨d', e, g⟩ : ∃ d', dD (b - a + 1) d (a : Int) (b : Int) (lim : Int) = some d' ∧ wL a b d d' := by
    rcases NQ (b - a + 1) d a b lim hv with ⟨_, h⟩ | h
    · omega
    · exact h
  cases hf : MK (fun k => dD k d (a : Int) (b : Int) (lim : Int)) with
  | none =>
    exfalso
    unfold MK at hf
    have hex : ∃ k r, dD k d (a : Int) (b : Int) (lim : Int) = some r := ⟨_, d', e⟩
    rw [dif_pos hex] at hf
    obtain ⟨r, hr⟩ := Classical.choose_spec hex
    have hf' : dD (Classical.choose hex) d (a : Int) (b : Int) (lim : Int) = none := hf
    rw [hr] at hf'
    cases hf'
  | some r =>
    obtain ⟨k, hk⟩ := JU hf
    rcases NQ k d a b lim hv with ⟨h, _⟩ | ⟨d2, h, g2⟩
    · rw [h] at hk; cases hk
    · rw [h] at hk; cases hk; exact ⟨_, rfl, g2⟩

theorem YD {d : List Int} (hl : d.length < 2305843009213693951) : ∃ d', kD d = some d' ∧ d'.Perm d ∧ d'.Pairwise (· ≤ ·) := by
  unfold kD
  have hL : ∃ L : Nat, jT (IntKind.u64.wrap ((List.length d : Nat) : Int)) = some (L : Int) ∧ L ≤ 100 := by
    rw [BY (by omega) (by omega)]
    by_cases h0 : d.length = 0
    · rw [h0]; exact ⟨0, VJ, by omega⟩
    · obtain ⟨k, e, h1, _⟩ := UH (x := ((List.length d : Nat) : Int)) (by omega) (by omega)
      exact ⟨k + 1, by rw [e]; rfl, by omega⟩
  obtain ⟨L, eL, hL⟩ := hL
  rw [eL]
  simp only [Option.bind_some]
  obtain ⟨d', e, g⟩ := ZL (a := 0) (b := d.length) (lim := L) (d := d) ⟨Nat.zero_le _, Nat.le_refl _, hl, .inl rfl, hL⟩
  have e' : jD d 0 ((List.length d : Nat) : Int) (L : Int) = some d' := e
  rw [e']
  refine ⟨d', rfl, g.1.perm, List.pairwise_iff_getElem.2 fun i j hi hj hij => ?_⟩
  have := g.2 i j (Nat.zero_le _) (by omega) (by rw [g.1.len] at hj; exact hj)
  simp only [gN, List.getD_eq_getElem?_getD, List.getElem?_eq_getElem hi, List.getElem?_eq_getElem hj] at this
  exact this

end Go.Abs
namespace Go.Abs
open Go
theorem AT : ∀ {ps : List Int} {last : Int}, Inc last ps → ps.Pairwise (· < ·)
  | [], _, _ => List.Pairwise.nil
  | p :: r, last, h => List.Pairwise.cons (fun x hx => (h.2.above x hx).1) (AT h.2)

theorem XT {ps : List Int} {last : Int} (h : Inc last ps) : ps.Pairwise (· ≤ ·) := (AT h).imp fun h => by omega

end Go.Abs
namespace Go.Abs
open Go
theorem EK {r : List aB} (h : r.length ≤ 4398046510976) : gR r = some r := by
  unfold gR
  rw [aK (by omega)]

end Go.Abs
namespace Go.Abs
open Go
def QY : aB := ⟨1, 1, ByteArray.empty⟩

def EA : aB := ⟨1, 2, ByteArray.empty⟩

end Go.Abs
namespace Go.Abs
open Go
def lC (e : aI) : Bool := decide (0 < e.Net) && decide (-1 < e.At)

def cJ (l : List aI) : List Int := (l.filter lC).foldl (fun c e => kX e.At c) []

theorem HC {S : Type} {body : S → aI → Option (S ⊕ S)} {l : List aI} (hl : l.length ≤ 1000000) (f : S → aI → S) (Inv : S → List aI → Prop)
    (h : ∀ s e r, Inv s (e :: r) → (lC e = true → body s e = some (.inl (f s e)) ∧ Inv (f s e) r) ∧ (lC e = false → Inv s r)) {s : S} (hi : Inv s l) :
    lJ (fun st e => rnd (fun s => body s e) st) l (.inl s : S ⊕ S) = some (.inl ((l.filter lC).foldl f s)) := by
  unfold lJ oH
  rw [rP (l := l) (body := fun s : (S ⊕ S) × Int => jQ (fun st e => rnd (fun s => body s e) st) l ((l.length : Nat) : Int) s.1 s.2) (fun (s : S) i => (.inl s, i)) (fun s r => .inl (.inl ((r.filter lC).foldl f s))) Inv s ?_ ?_ hi]
  · rfl
  · intro i e r s he hI
    left
    obtain ⟨d1, d2, d3, d4⟩ := idx he (by omega)
    obtain ⟨h1, h2⟩ := h s e r hI
    cases hr : lC e with
    | true =>
      obtain ⟨b1, b2⟩ := h1 hr
      refine ⟨f s e, ?_, b2, by simp [hr]⟩
      have hc : (decide (0 < e.Net) && decide (-1 < e.At)) = true := hr
      simp only [jQ, d1, cond_true, aK d2, d3, d4, hc, BX, rnd, b1, Option.bind_some, Bool.true_and]
      rfl
    | false =>
      refine ⟨s, ?_, h2 hr, by simp [hr]⟩
      have hc : (decide (0 < e.Net) && decide (-1 < e.At)) = false := hr
      simp only [jQ, d1, cond_true, aK d2, d3, d4, hc, BX, cond_false, Option.bind_some, Bool.false_and]
  · intro s _
    simp only [jQ, iZ, cond_false]
    rfl

theorem JZ : ∀ {a b : List Int}, a.Pairwise (· < ·) → b.Pairwise (· < ·) → (∀ x, x ∈ a ↔ x ∈ b) → a = b
  | [], [], _, _, _ => rfl
  | [], y :: b, _, _, h => by have := (h y).2 (by simp); simp at this
  | x :: a, [], _, _, h => by have := (h x).1 (by simp); simp at this
  | x :: a, y :: b, ha, hb, h => by
    obtain ⟨a1, a2⟩ := List.pairwise_cons.1 ha
    obtain ⟨b1, b2⟩ := List.pairwise_cons.1 hb
    have hxy : x = y := by
      rcases List.mem_cons.1 ((h x).1 (by simp)) with h1 | h1
      · exact h1
      · rcases List.mem_cons.1 ((h y).2 (by simp)) with h2 | h2
        · exact h2.symm
        · have := a1 y h2; have := b1 x h1; omega
    subst hxy
    rw [JZ a2 b2 fun z => ?_]
    constructor
    · intro hz
      rcases List.mem_cons.1 ((h z).1 (by simp [hz])) with h1 | h1
      · have := a1 z hz; omega
      · exact h1
    · intro hz
      rcases List.mem_cons.1 ((h z).2 (by simp [hz])) with h1 | h1
      · have := b1 z hz; omega
      · exact h1

theorem HN {d : List Int} (hd : d.Pairwise (· ≤ ·)) {i j : Nat} (hij : i ≤ j) (hj : j < d.length) : d.getD i 0 ≤ d.getD j 0 := by
  rw [List.getD_eq_getElem?_getD, List.getD_eq_getElem?_getD, List.getElem?_eq_getElem (by omega), List.getElem?_eq_getElem hj]
  rcases Nat.lt_or_ge i j with h | h
  · exact List.pairwise_iff_getElem.1 hd i j (by omega) hj h
  · have : i = j := by omega
    subst this; exact Int.le_refl _

theorem DA {d : List Int} {p : Nat} (hp : p < d.length) : d.take (p + 1) = d.take p ++ [d.getD p 0] := by
  rw [List.take_add_one, List.getElem?_eq_getElem hp, List.getD_eq_getElem?_getD, List.getElem?_eq_getElem hp]; rfl

theorem OY {d : List Int} (hd : d.Pairwise (· ≤ ·)) {p : Nat} (hp : p < d.length) {x : Int} (hx : x ∈ d.take (p + 1)) : x ≤ d.getD p 0 := by
  obtain ⟨i, hi⟩ := List.getElem?_of_mem hx
  rw [List.getElem?_take] at hi
  split at hi
  · rename_i hlt
    have := HN hd (i := i) (j := p) (by omega) hp
    rw [List.getD_eq_getElem?_getD (i := i), hi] at this
    exact this
  · cases hi

def Kept (d c : List Int) (p : Nat) : Prop := c.Pairwise (· < ·) ∧ ∀ x, x ∈ c ↔ x ∈ d.take p

theorem Kept.same {d c : List Int} {p : Nat} (h : Kept d c p) (h0 : 0 < p) (hp : p < d.length) (e : d.getD p 0 = d.getD (p - 1) 0) : Kept d c (p + 1) := by
  refine ⟨h.1, fun x => ?_⟩
  rw [h.2 x, DA hp, List.mem_append]
  constructor
  · exact .inl
  · rintro (h1 | h1)
    · exact h1
    · rw [List.mem_singleton.1 h1, e]
      have : p - 1 < p := by omega
      refine List.mem_of_getElem? (i := p - 1) ?_
      rw [List.getElem?_take, if_pos this, List.getD_eq_getElem?_getD, List.getElem?_eq_getElem (by omega)]; rfl

theorem Kept.more {d c : List Int} {p : Nat} (hd : d.Pairwise (· ≤ ·)) (h : Kept d c p) (h0 : 0 < p) (hp : p < d.length) (e : d.getD p 0 ≠ d.getD (p - 1) 0) : Kept d (c ++ [d.getD p 0]) (p + 1) := by
  have hle := HN hd (i := p - 1) (j := p) (by omega) hp
  refine ⟨?_, fun x => by rw [DA hp, List.mem_append, List.mem_append, h.2 x]⟩
  rw [List.pairwise_append]
  refine ⟨h.1, by simp, fun a ha b hb => ?_⟩
  rw [List.mem_singleton.1 hb]
  have ha' := (h.2 a).1 ha
  have : a ≤ d.getD (p - 1) 0 := by
    refine OY hd (by omega) ?_
    rwa [show p - 1 + 1 = p by omega]
  omega

theorem qH (d : List Int) (i : Nat) : d.getD i default = d.getD i 0 := rfl

theorem MO {d : List Int} (hd : d.Pairwise (· ≤ ·)) (hl : d.length ≤ 1000000) {k : Nat} (hk0 : 0 < k) (hk : k < d.length) {c : List Int} (hc : Kept d c (k + 1)) (hck : c = d.take k) :
    ∃ r, lp (fun s : List Int × Int × Int => eX (0 + Int.toNat ((k : Nat) : Int)) (d.length - Int.toNat ((k : Nat) : Int)) s.1 s.2.1 s.2.2) (d, ((k : Nat) : Int), 1) = some r ∧
      ∃ c' k3 : Nat → Nat, True ∧ ∃ (cc : List Int) (m : Nat), r.2 = ((m : Nat) : Int) ∧ r.1.length = d.length ∧ m ≤ d.length ∧ r.1.take m = cc ∧ Kept d cc d.length := by
  have key := LQ (body := fun s : List Int × Int × Int => eX (0 + Int.toNat ((k : Nat) : Int)) (d.length - Int.toNat ((k : Nat) : Int)) s.1 s.2.1 s.2.2)
    (I := fun s => ∃ (k2 m : Nat), s.2.2 = ((k2 : Nat) : Int) ∧ s.2.1 = ((m : Nat) : Int) ∧ 0 < k2 ∧ k + k2 ≤ d.length ∧ s.1.length = d.length ∧ m + 1 ≤ k + k2 ∧ (∀ j, m ≤ j → s.1[j]? = d[j]?) ∧ Kept d (s.1.take m) (k + k2))
    (m := fun s => d.length + 1 - s.2.2.toNat) (Post := fun r => ∃ m : Nat, r.2 = ((m : Nat) : Int) ∧ r.1.length = d.length ∧ m ≤ d.length ∧ Kept d (r.1.take m) d.length) ?_ (s := (d, ((k : Nat) : Int), 1)) ?_
  · obtain ⟨r, h1, m, h2, h3, h4, h5⟩ := key
    exact ⟨r, h1, id, id, trivial, _, m, h2, h3, h4, rfl, h5⟩
  · rintro ⟨s0, k3, k25⟩ ⟨k2, m, e1, e2, g1, g2, g3, g4, g5, g6⟩
    simp only at e1 e2 g3 g5 g6
    subst e1 e2
    by_cases hlt : k + k2 < d.length
    · left
      have hat : ∀ j, m ≤ j → s0.getD j 0 = d.getD j 0 := fun j hj => by
        rw [List.getD_eq_getElem?_getD, List.getD_eq_getElem?_getD, g5 j hj]
      have w1 : IntKind.i64.wrap (((k2 : Nat) : Int) - 1) = ((k2 - 1 : Nat) : Int) := by rw [dG (by omega) (by omega)]; omega
      have w2 : IntKind.i64.wrap (((k2 : Nat) : Int) + 1) = ((k2 + 1 : Nat) : Int) := by rw [dG (by omega) (by omega)]; omega
      have w3 : IntKind.i64.wrap (((m : Nat) : Int) + 1) = ((m + 1 : Nat) : Int) := by rw [dG (by omega) (by omega)]; omega
      have c1 : decide (((k2 : Nat) : Int) < ((d.length - Int.toNat ((k : Nat) : Int) : Nat) : Int)) = true := by
        rw [decide_eq_true_eq]; simp only [Int.toNat_natCast]; omega
      have c2 : (0 : Int) ≤ ((k2 : Nat) : Int) ∧ ((k2 : Nat) : Int) < ((d.length - Int.toNat ((k : Nat) : Int) : Nat) : Int) := ⟨by omega, by simp only [Int.toNat_natCast]; omega⟩
      have c3 : 0 + Int.toNat ((k : Nat) : Int) + Int.toNat ((k2 : Nat) : Int) < s0.length := by simp only [Int.toNat_natCast]; omega
      have c4 : (0 : Int) ≤ ((k2 - 1 : Nat) : Int) ∧ ((k2 - 1 : Nat) : Int) < ((d.length - Int.toNat ((k : Nat) : Int) : Nat) : Int) := ⟨by omega, by simp only [Int.toNat_natCast]; omega⟩
      have c5 : 0 + Int.toNat ((k : Nat) : Int) + Int.toNat ((k2 - 1 : Nat) : Int) < s0.length := by simp only [Int.toNat_natCast]; omega
      have c6 : (0 : Int) ≤ ((m : Nat) : Int) ∧ ((m : Nat) : Int) < ((s0.length : Nat) : Int) := ⟨by omega, by omega⟩
      have i1 : s0.getD (0 + Int.toNat ((k : Nat) : Int) + Int.toNat ((k2 : Nat) : Int)) default = d.getD (k + k2) 0 := by
        rw [qH, show 0 + Int.toNat ((k : Nat) : Int) + Int.toNat ((k2 : Nat) : Int) = k + k2 by simp only [Int.toNat_natCast]; omega]; exact hat _ (by omega)
      have i2 : s0.getD (0 + Int.toNat ((k : Nat) : Int) + Int.toNat ((k2 - 1 : Nat) : Int)) default = d.getD (k + k2 - 1) 0 := by
        rw [qH, show 0 + Int.toNat ((k : Nat) : Int) + Int.toNat ((k2 - 1 : Nat) : Int) = k + k2 - 1 by simp only [Int.toNat_natCast]; omega]; exact hat _ (by omega)
      by_cases he : d.getD (k + k2) 0 = d.getD (k + k2 - 1) 0
      · refine ⟨(s0, ((m : Nat) : Int), ((k2 + 1 : Nat) : Int)), ?_, ⟨k2 + 1, m, rfl, rfl, by omega, by omega, g3, by omega, g5, ?_⟩, by simp only [Int.toNat_natCast]; omega⟩
        · simp only [eX, iL, c1, cond_true, aK c2, aK c3, w1, aK c4, aK c5, i1, i2, he, decide_true, Bool.not_true, cond_false, w2]
        · exact g6.same (by omega) hlt he
      · refine ⟨(s0.set m (d.getD (k + k2) 0), ((m + 1 : Nat) : Int), ((k2 + 1 : Nat) : Int)), ?_, ⟨k2 + 1, m + 1, rfl, rfl, by omega, by omega, by simpa using g3, by omega, fun j hj => ?_, ?_⟩, by simp only [Int.toNat_natCast]; omega⟩
        · simp only [eX, iL, c1, cond_true, aK c2, aK c3, w1, aK c4, aK c5, i1, i2, decide_eq_false he, Bool.not_false, aK c6, w2, w3]
          rfl
        · simp only
          rw [List.getElem?_set_ne (by omega)]; exact g5 j (by omega)
        · have h1 := g6.more hd (by omega) hlt he
          have h2 : (s0.set m (d.getD (k + k2) 0)).take (m + 1) = s0.take m ++ [d.getD (k + k2) 0] := by
            rw [List.take_add_one, List.take_set_of_le (Nat.le_refl m), List.getElem?_set_self (by omega)]; rfl
          simp only
          rw [h2]; exact h1
    · right
      have hk2 : k + k2 = d.length := by omega
      refine ⟨(s0, ((m : Nat) : Int)), ?_, m, rfl, g3, by omega, by rw [← hk2]; exact g6⟩
      have c1 : decide (((k2 : Nat) : Int) < ((d.length - Int.toNat ((k : Nat) : Int) : Nat) : Int)) = false := by
        rw [decide_eq_false_iff_not]; simp only [Int.toNat_natCast]; omega
      simp only [eX, c1, cond_false]
  · refine ⟨1, k, rfl, rfl, by omega, by omega, rfl, by omega, fun _ _ => rfl, ?_⟩
    rw [← hck]; exact hc

theorem RE {k : Nat} {d : List Int} : (jI k d).take k = d.take k := by
  unfold jI
  by_cases h : k ≤ d.length
  · rw [List.take_append_of_le_length (by simp; omega), List.take_take]; simp
  · have e1 : d.take k = d := List.take_of_length_le (by omega)
    rw [e1, show d.length - k = 0 by omega, List.replicate_zero, List.append_nil, e1]

theorem QX {d : List Int} (hd : d.Pairwise (· ≤ ·)) (hl : d.length ≤ 1000000) : ∃ c, iX d = some c ∧ Kept d c d.length := by
  unfold iX
  by_cases h2 : d.length < 2
  · rw [decide_eq_true (by omega), cond_true]
    refine ⟨d, rfl, ?_, fun x => by rw [List.take_length]⟩
    match d, h2 with
    | [], _ => exact List.Pairwise.nil
    | [x], _ => exact List.pairwise_singleton ..
    | _ :: _ :: _, h => simp at h; omega
  · rw [decide_eq_false (by omega), cond_false]
    unfold lO
    have key := LQ (body := fun s : List Int × Int => gC s.1 s.2)
      (I := fun s => s.1 = d ∧ ∃ k : Nat, s.2 = ((k : Nat) : Int) ∧ 0 < k ∧ k ≤ d.length ∧ (d.take k).Pairwise (· < ·)) (m := fun s => d.length + 1 - s.2.toNat)
      (Post := fun r => ∃ c, Sum.elim (fun rr : List Int => jS rr) (fun rr => some rr) r = some c ∧ Kept d c d.length) ?_ (s := (d, 1)) ?_
    · obtain ⟨r, h3, c, h4, h5⟩ := key
      rw [h3, Option.bind_some]
      exact ⟨c, h4, h5⟩
    · rintro ⟨s0, k3⟩ ⟨e1, k, e2, g1, g2, g3⟩
      simp only at e1 e2
      subst e1 e2
      by_cases hlt : k < s0.length
      · have w1 : IntKind.i64.wrap (((k : Nat) : Int) - 1) = ((k - 1 : Nat) : Int) := by rw [dG (by omega) (by omega)]; omega
        have w2 : IntKind.i64.wrap (((k : Nat) : Int) + 1) = ((k + 1 : Nat) : Int) := by rw [dG (by omega) (by omega)]; omega
        have c1 : (0 : Int) ≤ ((k : Nat) : Int) ∧ ((k : Nat) : Int) < ((s0.length : Nat) : Int) := ⟨by omega, by omega⟩
        have c2 : (0 : Int) ≤ ((k - 1 : Nat) : Int) ∧ ((k - 1 : Nat) : Int) < ((s0.length : Nat) : Int) := ⟨by omega, by omega⟩
        have hK : Kept s0 (s0.take k) k := ⟨g3, fun _ => Iff.rfl⟩
        by_cases he : s0.getD k 0 = s0.getD (k - 1) 0
        · right
          obtain ⟨r, h3, _, _, _, cc, m, h4, h5, h6, h7, h8⟩ := MO hd hl g1 hlt (hK.same g1 hlt he) rfl
          refine ⟨.inr cc, ?_, cc, rfl, h8⟩
          have c3 : (0 : Int) ≤ ((k : Nat) : Int) ∧ ((k : Nat) : Int) ≤ ((s0.length : Nat) : Int) := ⟨by omega, by omega⟩
          simp only [gC, decide_eq_true c1.2, cond_true, aK c1, w1, aK c2, Int.toNat_natCast, qH, he, decide_true, aK c3, lQ]
          rw [Int.toNat_natCast] at h3
          rw [h3, Option.bind_some]
          unfold jY
          rw [h4, aK (by omega), aK (by rw [clearL_len]; omega), aK (by rw [clearL_len, Int.toNat_natCast]; omega), Int.toNat_natCast, Nat.zero_add, RE, h7]
        · left
          refine ⟨(s0, ((k + 1 : Nat) : Int)), ?_, ⟨rfl, k + 1, rfl, by omega, by omega, ?_⟩, by simp only [Int.toNat_natCast]; omega⟩
          · simp only [gC, lP, decide_eq_true c1.2, cond_true, aK c1, w1, aK c2, Int.toNat_natCast, qH, decide_eq_false he, cond_false, w2]
          · rw [DA hlt]
            exact (hK.more hd g1 hlt he).1
      · right
        have hk : k = s0.length := by omega
        subst hk
        refine ⟨.inl s0, ?_, s0, rfl, ?_, fun x => by rw [List.take_length]⟩
        · simp only [gC, iZ, cond_false]
        · rwa [List.take_length] at g3
    · refine ⟨rfl, 1, rfl, by omega, by omega, ?_⟩
      match d, h2 with
      | x :: r, _ => simp
      | [], h => simp at h

theorem GI {l : List aI} : ∀ {c : List Int}, (∀ e ∈ l, lC e = true ∧ e.At < 1125899906842624) → Inc (-1) c → Inc (-1) (l.foldl (fun c e => kX e.At c) c) ∧ (∀ x, x ∈ l.foldl (fun c e => kX e.At c) c ↔ x ∈ c ∨ ∃ e ∈ l, e.At = x) := by
  induction l with
  | nil => intro c _ hi; exact ⟨hi, fun x => by simp⟩
  | cons e l ih =>
    intro c he hi
    have h1 := he e (by simp)
    have hr : -1 < e.At := by have := h1.1; simp [lC] at this; omega
    obtain ⟨i1, i2⟩ := ih (c := kX e.At c) (fun q hq => he q (by simp [hq])) (DK hi hr h1.2)
    refine ⟨i1, fun x => ?_⟩
    rw [List.foldl_cons, i2 x, KF]
    constructor
    · rintro ((h | h) | ⟨q, h, h'⟩)
      · exact .inr ⟨e, by simp, h.symm⟩
      · exact .inl h
      · exact .inr ⟨q, by simp [h], h'⟩
    · rintro (h | ⟨q, h, h'⟩)
      · exact .inl (.inr h)
      · rcases List.mem_cons.1 h with rfl | h
        · exact .inl (.inl h'.symm)
        · exact .inr ⟨q, h, h'⟩

theorem EU {l : List aI} (h : ∀ e ∈ l, e.At < 1125899906842624) : Inc (-1) (cJ l) :=
  (GI (c := []) (fun e he => by have := List.mem_filter.1 he; exact ⟨this.2, h e this.1⟩) trivial).1

theorem OA {l : List aI} (h : ∀ e ∈ l, e.At < 1125899906842624) {x : Int} : x ∈ cJ l ↔ ∃ e ∈ l, lC e = true ∧ e.At = x := by
  unfold cJ
  rw [(GI (c := []) (fun e he => by have := List.mem_filter.1 he; exact ⟨this.2, h e this.1⟩) trivial).2 x]
  constructor
  · rintro (h1 | ⟨e, h1, h2⟩)
    · simp at h1
    · have := List.mem_filter.1 h1; exact ⟨e, this.1, this.2, h2⟩
  · rintro ⟨e, h1, h2, h3⟩
    exact .inr ⟨e, List.mem_filter.2 ⟨h1, h2⟩, h3⟩

theorem SV {l : List aI} : ∀ {c : List Int}, l.foldl (fun c e => c ++ [e.At]) c = c ++ l.map (·.At) := by
  induction l with
  | nil => intro c; simp
  | cons e l ih => intro c; rw [List.foldl_cons, ih]; simp

theorem vE {l : List aI} (hn : l.length ≤ 4096) (hat : ∀ e ∈ l, e.At < 1125899906842624) : lT l = some (cJ l) := by
  unfold lT nS
  rw [Option.bind_some]
  unfold qQ
  rw [HC (by omega) (fun s e => s ++ [e.At]) (fun s r => s.length + r.length ≤ 1000000) (fun s e r hI => ⟨fun _ => ⟨?_, ?_⟩, fun _ => ?_⟩) (by simp; omega), Option.bind_some, Sum.elim_inl, SV, List.nil_append]
  · have hfl := List.length_filter_le lC l
    obtain ⟨d', h1, h2, h3⟩ := YD (d := (l.filter lC).map (·.At)) (by simp; omega)
    have hdl : d'.length ≤ 4096 := by rw [h2.length_eq, List.length_map]; omega
    obtain ⟨c, h4, h5⟩ := QX h3 (by omega)
    rw [h1, Option.bind_some, h4, Option.bind_some]
    congr 1
    refine JZ h5.1 (AT (EU hat)) fun x => ?_
    rw [h5.2 x, List.take_length, h2.mem_iff, OA hat, List.mem_map]
    constructor
    · rintro ⟨e, q1, q2⟩
      have := List.mem_filter.1 q1; exact ⟨e, this.1, this.2, q2⟩
    · rintro ⟨e, q1, q2, q3⟩
      exact ⟨e, List.mem_filter.2 ⟨q1, q2⟩, q3⟩
  · simp only [List.length_cons] at hI
    unfold oB
    rw [aK (by simp only [List.length_cons, List.length_nil]; omega)]
  · simp only [List.length_cons, List.length_append, List.length_nil] at hI ⊢; omega
  · simp only [List.length_cons] at hI; omega

theorem OT (l : List aI) : (cJ l).length ≤ l.length := by
  have key : ∀ (l : List aI) (c : List Int), (l.foldl (fun c e => kX e.At c) c).length ≤ c.length + l.length := by
    intro l
    induction l with
    | nil => intro c; simp
    | cons e l ih => intro c; rw [List.foldl_cons]; have := ih (kX e.At c); have := CN (t := e.At) (ps := c); simp only [List.length_cons]; omega
  have h1 := key (l.filter lC) []
  have h2 := List.length_filter_le lC l
  simp only [List.length_nil] at h1
  unfold cJ; omega

end Go.Abs
namespace Go.Abs
open Go
theorem VY {a : List Int} {t : Int} {m : Nat} (h1 : ∀ x ∈ a.take m, x < t) (h2 : ∀ x ∈ a.drop m, t ≤ x) : (a.filter fun x => decide (x < t)) = a.take m ∧ (a.filter fun x => decide (t ≤ x)) = a.drop m := by
  have e : a = a.take m ++ a.drop m := (List.take_append_drop m a).symm
  have e1 : (a.take m).filter (fun x => decide (x < t)) = a.take m := List.filter_eq_self.2 fun x hx => by simpa using h1 x hx
  have e2 : (a.drop m).filter (fun x => decide (x < t)) = [] := List.filter_eq_nil_iff.2 fun x hx => by have := h2 x hx; simp; omega
  have e3 : (a.take m).filter (fun x => decide (t ≤ x)) = [] := List.filter_eq_nil_iff.2 fun x hx => by have := h1 x hx; simp; omega
  have e4 : (a.drop m).filter (fun x => decide (t ≤ x)) = a.drop m := List.filter_eq_self.2 fun x hx => by simpa using h2 x hx
  constructor
  · conv => lhs; rw [e]
    rw [List.filter_append, e1, e2, List.append_nil]
  · conv => lhs; rw [e]
    rw [List.filter_append, e3, e4, List.nil_append]

theorem PG (x y : Int) : cP x y = some (decide (x < y)) := by simp [cP, jX, cX]

theorem aAB {a : List Int} (hd : a.Pairwise (· ≤ ·)) (hl : a.length ≤ 1000000) (t : Int) : ∃ (m : Nat) (b : Bool), eV a t = some (((m : Nat) : Int), b) ∧ m ≤ a.length ∧ (a.filter fun x => decide (x < t)) = a.take m ∧ (a.filter fun x => decide (t ≤ x)) = a.drop m := by
  unfold eV jV
  have key := LQ (body := fun s : Int × Int => eH a t ((a.length : Nat) : Int) s.1 s.2)
    (I := fun s => ∃ i j : Nat, s.1 = ((i : Nat) : Int) ∧ s.2 = ((j : Nat) : Int) ∧ i ≤ j ∧ j ≤ a.length ∧ (∀ k, k < i → a.getD k 0 < t) ∧ ∀ k, j ≤ k → k < a.length → t ≤ a.getD k 0)
    (m := fun s => s.2.toNat - s.1.toNat) (Post := fun r => ∃ m : Nat, r = ((m : Nat) : Int) ∧ m ≤ a.length ∧ (∀ k, k < m → a.getD k 0 < t) ∧ ∀ k, m ≤ k → k < a.length → t ≤ a.getD k 0) ?_ (s := (0, ((a.length : Nat) : Int))) ?_
  · obtain ⟨r, h1, m, rfl, h2, h3, h4⟩ := key
    rw [h1, Option.bind_some]
    have hs := VY (a := a) (t := t) (m := m) (fun x hx => by
      obtain ⟨k, hk⟩ := List.getElem?_of_mem hx
      rw [List.getElem?_take] at hk
      split at hk
      · rename_i hlt
        have := h3 k hlt
        rwa [List.getD_eq_getElem?_getD, hk] at this
      · cases hk) (fun x hx => by
      obtain ⟨k, hk⟩ := List.getElem?_of_mem hx
      rw [List.getElem?_drop] at hk
      have hlt := (List.getElem?_eq_some_iff.1 hk).1
      have := h4 (m + k) (by omega) hlt
      rwa [List.getD_eq_getElem?_getD, hk] at this)
    unfold iD
    have c1 : ∀ b : Bool, (b && decide (((m : Nat) : Int) < ((a.length : Nat) : Int))) = true → (0 : Int) ≤ ((m : Nat) : Int) ∧ ((m : Nat) : Int) < ((a.length : Nat) : Int) := fun b hb => by
      simp only [Bool.and_eq_true, decide_eq_true_eq] at hb; omega
    rw [aK (fun hb => by have := of_decide_eq_true hb; omega), aK (c1 _)]
    simp only [mV, cX]
    cases (!decide (a.getD (Int.toNat ((m : Nat) : Int)) default = t) && decide (((m : Nat) : Int) < ((a.length : Nat) : Int))) <;> simp only [cond_true, cond_false, Option.bind_some, Bool.and_true, Bool.and_false, decide_true, Bool.not_true]
    · exact ⟨m, _, rfl, h2, hs.1, hs.2⟩
    · exact ⟨m, _, rfl, h2, hs.1, hs.2⟩
  · rintro ⟨x, y⟩ ⟨i, j, e1, e2, g1, g2, g3, g4⟩
    simp only at e1 e2
    subst e1 e2
    by_cases hij : i < j
    · left
      have hm : IntKind.i64.wrap (Int.fdiv (IntKind.u64.wrap (IntKind.i64.wrap (((i : Nat) : Int) + ((j : Nat) : Int)))) (2 ^ (min (Int.toNat (1 : Int)) 64))) = (((i + j) / 2 : Nat) : Int) := by
        rw [← Int.natCast_add]; exact half (by omega)
      have c1 : (0 : Int) ≤ (((i + j) / 2 : Nat) : Int) ∧ (((i + j) / 2 : Nat) : Int) < ((a.length : Nat) : Int) := ⟨by omega, by omega⟩
      have w1 : IntKind.i64.wrap ((((i + j) / 2 : Nat) : Int) + 1) = (((i + j) / 2 + 1 : Nat) : Int) := by rw [dG (by omega) (by omega)]; omega
      by_cases hc : a.getD ((i + j) / 2) 0 < t
      · refine ⟨((((i + j) / 2 + 1 : Nat) : Int), ((j : Nat) : Int)), ?_, ⟨(i + j) / 2 + 1, j, rfl, rfl, by omega, g2, fun k hk => ?_, g4⟩, by simp only [Int.toNat_natCast]; omega⟩
        · simp only [eH, decide_eq_true (show ((i : Nat) : Int) < ((j : Nat) : Int) by omega), cond_true, aK (show (0 : Int) ≤ 1 by decide), hm, aK c1, Int.toNat_natCast, qH, PG, Option.bind_some, w1]
          rw [decide_eq_true hc, cond_true]
        · have := HN hd (i := k) (j := (i + j) / 2) (by omega) (by omega); omega
      · refine ⟨(((i : Nat) : Int), (((i + j) / 2 : Nat) : Int)), ?_, ⟨i, (i + j) / 2, rfl, rfl, by omega, by omega, g3, fun k hk hkl => ?_⟩, by simp only [Int.toNat_natCast]; omega⟩
        · simp only [eH, decide_eq_true (show ((i : Nat) : Int) < ((j : Nat) : Int) by omega), cond_true, aK (show (0 : Int) ≤ 1 by decide), hm, aK c1, Int.toNat_natCast, qH, PG, Option.bind_some, w1]
          rw [decide_eq_false hc, cond_false]
        · have := HN hd (i := (i + j) / 2) (j := k) (by omega) hkl; omega
    · right
      refine ⟨((i : Nat) : Int), ?_, i, rfl, by omega, g3, fun k hk hkl => g4 k (by omega) hkl⟩
      simp only [eH, decide_eq_false (show ¬ ((i : Nat) : Int) < ((j : Nat) : Int) by omega), cond_false]
  · exact ⟨0, a.length, rfl, rfl, by omega, Nat.le_refl _, fun k hk => by omega, fun k h1 h2 => by omega⟩

def lX (l : List aI) (n : Int) : Int := if !mM l || decide (n < 1) || decide (64 < n) then 2 else if !oX l then 20 else 0

theorem yI {l : List aI} (hl : okL l) (n : Int) : nV l n = some (lX l n) := by
  unfold nV lX
  rw [ZB hl, Option.bind_some]
  cases (!mM l || decide (n < 1) || decide (64 < n)) with
  | true => rfl
  | false =>
    rw [cond_false, TS hl, Option.bind_some]
    cases oX l <;> rfl

theorem EO {l : List aI} (hl : okL l) (n : Int) : oU l n = some (lX l n) := by
  unfold oU lX
  rw [HP hl, Option.bind_some]
  cases (!mM l || decide (n < 1) || decide (64 < n)) with
  | true => rfl
  | false =>
    rw [cond_false, NU hl, Option.bind_some]
    cases oX l <;> rfl

theorem uT {l : List aI} {n : Int} (h : lX l n = 0) : mM l = true ∧ oX l = true ∧ 1 ≤ n ∧ n ≤ 64 := by
  unfold lX at h
  cases hm : mM l with
  | false => simp [hm] at h
  | true =>
    cases ht : oX l with
    | false => rw [hm, ht] at h; split at h <;> simp at h
    | true =>
      rw [hm, ht] at h
      split at h
      · simp at h
      · rename_i c; simp at c; exact ⟨rfl, rfl, by omega, by omega⟩

theorem UK {l : List aI} {n : Int} (hm : mM l = true) (ht : oX l = true) (h1 : 1 ≤ n) (h2 : n ≤ 64) : lX l n = 0 := by
  unfold lX
  have e1 : decide (n < 1) = false := by simp; omega
  have e2 : decide (64 < n) = false := by simp; omega
  rw [hm, ht, e1, e2]; rfl

theorem CO {l : List aI} (hm : mM l = true) : ∀ e ∈ l, e.At < 1125899906842624 := fun e he => (AU hm he).2.2.1

def oP (l : List aI) : List Int × Int := if lX l 1 ≠ 0 then ([], lX l 1) else (cJ l, 0)

theorem yC {l : List aI} (hl : okL l) : nD l = some (oP l) := by
  unfold nD oP
  rw [yI hl, Option.bind_some]
  by_cases h : lX l 1 = 0
  · obtain ⟨hm, _⟩ := uT h
    rw [decide_eq_true h, Bool.not_true, cond_false, vE (oO hm).1 (CO hm), Option.bind_some, if_neg (by simpa using h)]
  · rw [decide_eq_false h, Bool.not_false, cond_true, if_pos h]

theorem NK {l : List aI} (hl : l.length ≤ 1000000) (hat : ∀ e ∈ l, e.At < 1125899906842624) : lp (fun s : List Int × Int => kS l s.1 s.2) ([], 0) = some (cJ l) := by
  refine rP (l := l) (body := fun s : List Int × Int => kS l s.1 s.2) (fun (s : List Int) i => (s, i)) (fun s r => (r.filter lC).foldl (fun c e => kX e.At c) s) (fun s r => Inc (-1) s ∧ s.length + r.length ≤ 1000001 ∧ ∀ e ∈ r, e.At < 1125899906842624) [] ?_ ?_ ⟨trivial, by simp; omega, hat⟩
  · rintro i a r s ha ⟨hi, hs, hr⟩
    left
    obtain ⟨d1, d2, d3, d4⟩ := idx ha (by omega)
    simp only [List.length_cons] at hs
    have ha1 := hr a (by simp)
    have hr' : ∀ e ∈ r, e.At < 1125899906842624 := fun e he => hr e (by simp [he])
    have ec : (decide (0 < a.Net) && decide (0 ≤ a.At)) = lC a := by
      unfold lC
      congr 1
    cases h : lC a with
    | true =>
      have h0 : -1 < a.At := by simp [lC] at h; omega
      refine ⟨kX a.At s, ?_, ⟨DK hi h0 ha1, by have := CN (t := a.At) (ps := s); omega, hr'⟩, by simp [h]⟩
      simp only [kS, mZ, d1, cond_true, aK d2, d3, d4]
      rw [aK (fun _ => d2), ec, h, cond_true, YZ hi (by omega)]; rfl
    | false =>
      refine ⟨s, ?_, ⟨hi, by omega, hr'⟩, by simp [h]⟩
      simp only [kS, mZ, d1, cond_true, aK d2, d3, d4]
      rw [aK (fun _ => d2), ec, h, cond_false]
  · rintro s _
    simp only [kS, iZ, cond_false]; rfl

theorem BR {l : List aI} (hl : okL l) : nP l = some (oP l) := by
  unfold nP oP
  rw [EO hl, Option.bind_some]
  by_cases h : lX l 1 = 0
  · obtain ⟨hm, _⟩ := uT h
    rw [decide_eq_true h, Bool.not_true, cond_false, if_neg (by simpa using h)]
    unfold sC
    rw [NK (by have := (oO hm).1; omega) (CO hm)]; rfl
  · rw [decide_eq_false h, Bool.not_false, cond_true, if_pos h]

def kF (a : List Int) (t : Int) : Nat := (a.filter fun x => decide (x < t)).length

def firstM (a : List Int) (n t : Int) : Nat := ((kF a t : Int) - n + 1).toNat

def SG (a : List Int) (n t : Int) : Int := if firstM a n t = kF a t then t else a.getD (firstM a n t) 0

def GK (l : List aI) (n t : Int) : Int × Int :=
  if lX l n ≠ 0 then (0, lX l n) else if t < 0 ∨ 1125899906842624 < t then (0, 13) else if t = 1125899906842624 then (t, 0) else (SG (cJ l) n t, 0)

theorem FP (a : List Int) (t : Int) : kF a t ≤ a.length := List.length_filter_le ..

theorem RI {a : List Int} (hd : a.Pairwise (· ≤ ·)) (hl : a.length ≤ 1000000) (t : Int) : (∃ b : Bool, eV a t = some (((kF a t : Nat) : Int), b)) ∧ (a.filter fun x => decide (x < t)) = a.take (kF a t) ∧ (a.filter fun x => decide (t ≤ x)) = a.drop (kF a t) := by
  obtain ⟨m, b, h1, h2, h3, h4⟩ := aAB hd hl t
  have hm : kF a t = m := by unfold kF; rw [h3, List.length_take]; omega
  rw [hm]; exact ⟨⟨b, h1⟩, h3, h4⟩

theorem vQ {l : List aI} (hm : mM l = true) : (cJ l).Pairwise (· < ·) ∧ (cJ l).Pairwise (· ≤ ·) ∧ (cJ l).length ≤ 4096 ∧ ∀ x ∈ cJ l, 0 ≤ x ∧ x < 1125899906842624 := by
  have hi := EU (CO hm)
  refine ⟨AT hi, XT hi, by have := OT l; have := (oO hm).1; omega, fun x hx => by have := hi.above x hx; omega⟩

theorem BP {l : List aI} (hl : okL l) (n t : Int) : oT l n t = some (GK l n t) := by
  unfold oT GK
  rw [yI hl, Option.bind_some]
  by_cases h : lX l n = 0
  · obtain ⟨hm, _, n1, n2⟩ := uT h
    obtain ⟨f1, f2, f3, f4⟩ := vQ hm
    rw [decide_eq_true h, Bool.not_true, cond_false, if_neg (by simpa using h)]
    by_cases h1 : t < 0 ∨ 1125899906842624 < t
    · have : (decide (t < 0) || decide (1125899906842624 < t)) = true := by simpa using h1
      rw [this, cond_true, if_pos h1]
    · have : (decide (t < 0) || decide (1125899906842624 < t)) = false := by simpa using h1
      rw [this, cond_false, if_neg h1]
      by_cases h2 : t = 1125899906842624
      · rw [decide_eq_true h2, cond_true, if_pos h2]
      · rw [decide_eq_false h2, cond_false, if_neg h2, vE (oO hm).1 (CO hm), Option.bind_some]
        obtain ⟨⟨b, hb⟩, hs1, hs2⟩ := RI f2 (by omega) t
        have hle := FP (cJ l) t
        rw [hb, Option.bind_some]
        have w1 : IntKind.i64.wrap (IntKind.i64.wrap (((kF (cJ l) t : Nat) : Int) - n) + 1) = ((kF (cJ l) t : Nat) : Int) - n + 1 := by
          rw [dG (n := ((kF (cJ l) t : Nat) : Int) - n) (by omega) (by omega), dG (by omega) (by omega)]
        have e1 : (if IntKind.i64.wrap (IntKind.i64.wrap (((kF (cJ l) t : Nat) : Int) - n) + 1) > 0 then IntKind.i64.wrap (IntKind.i64.wrap (((kF (cJ l) t : Nat) : Int) - n) + 1) else 0) = ((firstM (cJ l) n t : Nat) : Int) := by
          rw [w1]; unfold firstM
          split <;> omega
        simp only [e1]
        unfold SG
        by_cases hf : firstM (cJ l) n t = kF (cJ l) t
        · rw [decide_eq_true (by omega), cond_true, if_pos hf]
        · have hlt : firstM (cJ l) n t < kF (cJ l) t := by unfold firstM at hf ⊢; omega
          rw [decide_eq_false (by omega), cond_false, if_neg hf, aK (by omega), Int.toNat_natCast]; rfl
  · rw [decide_eq_false h, Bool.not_false, cond_true, if_pos h]

theorem RG {a : List Int} (hl : a.length ≤ 1000000) (n t : Int) : lp (fun s : List Int × Int => mB n t a s.1 s.2) ([], 0) = some (a.filter fun x => decide (x < t)) := by
  have := rP (l := a) (body := fun s : List Int × Int => mB n t a s.1 s.2) (fun (s : List Int) i => (s, i)) (fun s r => s ++ r.filter fun x => decide (x < t)) (fun s r => s.length + r.length ≤ 1000000) [] ?_ ?_ (by simp; omega)
  · rw [this]; simp
  · intro i x r s ha hs
    left
    obtain ⟨d1, d2, d3, d4⟩ := idx ha (by omega)
    simp only [List.length_cons] at hs
    by_cases h : x < t
    · refine ⟨s ++ [x], ?_, by simp only [List.length_append, List.length_cons, List.length_nil]; omega, by simp [h]⟩
      simp only [mB, oM, d1, cond_true, aK d2, d3, d4, h, decide_true]
      rw [aK (by simp only [List.length_cons, List.length_nil]; omega)]
    · refine ⟨s, ?_, by omega, by simp [h]⟩
      simp only [mB, oM, d1, cond_true, aK d2, d3, d4, h, decide_false, cond_false]
  · intro s _
    simp only [mB, iZ, cond_false]; simp

theorem RC {l : List aI} (hl : okL l) (n t : Int) : sM l n t = some (GK l n t) := by
  unfold sM GK
  rw [EO hl, Option.bind_some]
  by_cases h : lX l n = 0
  · obtain ⟨hm, ht, n1, n2⟩ := uT h
    obtain ⟨f1, f2, f3, f4⟩ := vQ hm
    rw [decide_eq_true h, Bool.not_true, cond_false, if_neg (by simpa using h)]
    simp only [vC, Option.bind_some]
    by_cases h1 : t < 0 ∨ 1125899906842624 < t
    · have : (!(decide (0 ≤ t) && decide (t ≤ 1125899906842624))) = true := by
        simp only [Bool.not_eq_true', Bool.and_eq_false_iff, decide_eq_false_iff_not]; omega
      rw [this, cond_true, if_pos h1]
    · have : (!(decide (0 ≤ t) && decide (t ≤ 1125899906842624))) = false := by
        simp only [Bool.not_eq_false', Bool.and_eq_true, decide_eq_true_eq]; omega
      rw [this, cond_false, if_neg h1, BR hl, Option.bind_some]
      have hse : (oP l).1 = cJ l := by
        unfold oP
        rw [UK hm ht (by omega) (by omega)]; rfl
      rw [hse]
      unfold uK
      rw [RG (by omega), Option.bind_some]
      have hlen : (List.filter (fun x => decide (x < t)) (cJ l)).length = kF (cJ l) t := rfl
      obtain ⟨_, hs1, _⟩ := RI f2 (by omega) t
      have hle := FP (cJ l) t
      have hat : ∀ i : Nat, i < kF (cJ l) t → (List.filter (fun x => decide (x < t)) (cJ l)).getD i default = (cJ l).getD i 0 := by
        intro i hi
        rw [hs1, List.getD_eq_getElem?_getD, List.getD_eq_getElem?_getD, List.getElem?_take, if_pos hi]; rfl
      unfold rJ
      rw [hlen]
      by_cases h2 : t = 1125899906842624
      · rw [decide_eq_true h2, if_pos h2]; rfl
      · rw [decide_eq_false h2, if_neg h2, Bool.false_or]
        unfold SG
        by_cases h3 : kF (cJ l) t = 0
        · rw [decide_eq_true (by omega), Bool.true_or, cond_true, if_pos (by unfold firstM; omega)]
        · rw [decide_eq_false (by omega), Bool.false_or]
          by_cases h4 : n = 1
          · rw [decide_eq_true h4, cond_true, if_pos (by unfold firstM; omega)]
          · have w1 : IntKind.i64.wrap (n - 1) = n - 1 := dG (by omega) (by omega)
            rw [decide_eq_false h4, cond_false, w1, if_neg (by unfold firstM; omega)]
            by_cases h5 : n - 1 ≤ ((kF (cJ l) t : Nat) : Int)
            · have w2 : IntKind.i64.wrap (((kF (cJ l) t : Nat) : Int) - (n - 1)) = ((firstM (cJ l) n t : Nat) : Int) := by
                rw [dG (by omega) (by omega)]; unfold firstM; omega
              have hlt : firstM (cJ l) n t < kF (cJ l) t := by unfold firstM; omega
              rw [decide_eq_true h5, cond_true, w2, aK (by omega), Int.toNat_natCast, hat _ hlt]
            · have h6 : firstM (cJ l) n t = 0 := by unfold firstM; omega
              rw [decide_eq_false h5, cond_false, aK (by omega), h6]
              have := hat 0 (by omega)
              rw [show Int.toNat (0 : Int) = 0 from rfl, this]
  · rw [decide_eq_false h, Bool.not_false, cond_true, if_pos h]

theorem WZ (l : List aI) : wI l = some (decide (((l.length : Nat) : Int) ≤ 60)) := rfl

end Go.Abs
namespace Go.Abs
open Go
theorem RK (a b : List aB) (hl : a.length ≤ 17592186044416) : fD a b = some (decide (a = b)) := by
  have := HE a b hl
  unfold sZ at this
  simpa using this

def inW (a b : Int) (j : aM) : Bool := decide (0 < j.Net) && (decide (a ≤ j.At) && decide (j.At < b))

def tO (a b : Int) (f : List aM) : Int := ((f.filter (inW a b)).map aM.Net).sum

def DV (a b : Int) (gs : List (List aB × List aM)) : List cG := gs.filterMap fun g => if 0 < tO a b g.2 then some ⟨g.1, tO a b g.2⟩ else none

def xE (rs : List cG) : cG := rs.getD (rs.length - 1) default

def wY (rs : List cG) (e : aI) : List cG := if 0 < rs.length ∧ (xE rs).Row = e.Row then rs.set (rs.length - 1) ⟨(xE rs).Row, (xE rs).N + e.Net⟩ else rs ++ [⟨e.Row, e.Net⟩]

def xW (p : bJ) (e : aI) : bJ := if e.At < p.Span.From ∨ p.Span.To ≤ e.At then p else ⟨p.Span, wY p.Rows e⟩

def oJ (a b : Int) (rs : List cG) (e : aI) : List cG := if inW a b (jE e) then wY rs e else rs

theorem CQ (a b : Int) (j : aM) (f : List aM) : tO a b (j :: f) = (if inW a b j then j.Net else 0) + tO a b f := by
  unfold tO
  by_cases h : inW a b j <;> simp [h]

theorem EN (a b : Int) : ∀ f : List aM, 0 ≤ tO a b f ∧ (tO a b f = 0 ↔ f.filter (inW a b) = [])
  | [] => by simp [tO]
  | j :: f => by
    obtain ⟨h1, h2⟩ := EN a b f
    rw [CQ]
    by_cases h : inW a b j
    · have : 0 < j.Net := by simp [inW] at h; omega
      rw [if_pos h]
      refine ⟨by omega, ?_⟩
      constructor
      · intro e; omega
      · intro e; simp [h] at e
    · rw [if_neg h, Int.zero_add]
      refine ⟨h1, ?_⟩
      rw [h2]; simp [h]

theorem RW (a b : Int) (g : List aB × List aM) (gs : List (List aB × List aM)) : DV a b (g :: gs) = (if 0 < tO a b g.2 then [⟨g.1, tO a b g.2⟩] else []) ++ DV a b gs := by
  unfold DV
  rw [List.filterMap_cons]
  by_cases h : 0 < tO a b g.2 <;> simp [h]

theorem RN (R : List cG) (c : cG) : xE (R ++ [c]) = c := by
  unfold xE
  simp [List.getD_eq_getElem?_getD]

theorem XC (R : List cG) (c d : cG) : (R ++ [c]).set ((R ++ [c]).length - 1) d = R ++ [d] := by
  simp [List.set_append_right]

theorem II (a b : Int) (r : List aB) : ∀ (f : List aM) (R : List cG) (v : Int), (nK r f).foldl (oJ a b) (R ++ [⟨r, v⟩]) = R ++ [⟨r, v + tO a b f⟩]
  | [], R, v => by simp [nK, tO]
  | j :: f, R, v => by
    have e : nK r (j :: f) = ⟨r, j.At, j.Net⟩ :: nK r f := rfl
    rw [e, List.foldl_cons, CQ]
    have ej : jE ⟨r, j.At, j.Net⟩ = j := rfl
    by_cases h : inW a b j
    · have e1 : oJ a b (R ++ [⟨r, v⟩]) ⟨r, j.At, j.Net⟩ = R ++ [⟨r, v + j.Net⟩] := by
        unfold oJ wY
        rw [ej, if_pos h, RN, if_pos ⟨by simp, rfl⟩, XC]
      rw [e1, II a b r f, if_pos h, Int.add_assoc]
    · have e1 : oJ a b (R ++ [⟨r, v⟩]) ⟨r, j.At, j.Net⟩ = R ++ [⟨r, v⟩] := by
        unfold oJ
        rw [ej, if_neg h]
      rw [e1, II a b r f, if_neg h, Int.zero_add]

theorem CB {rs : List cG} (h : 0 < rs.length) : xE rs ∈ rs := by
  unfold xE
  rw [List.getD_eq_getElem?_getD, List.getElem?_eq_getElem (by omega)]
  exact List.getElem_mem _

theorem NH (a b : Int) (r : List aB) : ∀ (f : List aM) (rs : List cG), (∀ c ∈ rs, c.Row ≠ r) → (nK r f).foldl (oJ a b) rs = rs ++ (if 0 < tO a b f then [⟨r, tO a b f⟩] else [])
  | [], rs, _ => by simp [nK, tO]
  | j :: f, rs, hr => by
    have e : nK r (j :: f) = ⟨r, j.At, j.Net⟩ :: nK r f := rfl
    have ej : jE ⟨r, j.At, j.Net⟩ = j := rfl
    rw [e, List.foldl_cons, CQ]
    have hg := (EN a b f).1
    by_cases h : inW a b j
    · have hj : 0 < j.Net := by simp [inW] at h; omega
      have e1 : oJ a b rs ⟨r, j.At, j.Net⟩ = rs ++ [⟨r, j.Net⟩] := by
        unfold oJ wY
        rw [ej, if_pos h, if_neg fun hc => hr _ (CB hc.1) hc.2]
      rw [e1, II, if_pos h, if_pos (by omega)]
    · have e1 : oJ a b rs ⟨r, j.At, j.Net⟩ = rs := by
        unfold oJ
        rw [ej, if_neg h]
      rw [e1, NH a b r f rs hr, if_neg h, Int.zero_add]

theorem EW (a b : Int) : ∀ {gs : List (List aB × List aM)} {rs : List cG}, CC gs → (∀ c ∈ rs, ∀ g ∈ gs, c.Row ≠ g.1) → (flat gs).foldl (oJ a b) rs = rs ++ DV a b gs
  | [], rs, _, _ => by simp [flat, DV]
  | g :: gs, rs, hs, hr => by
    obtain ⟨h1, h2⟩ := List.pairwise_cons.1 hs
    rw [KJ, List.foldl_append, NH a b g.1 g.2 rs fun c hc => hr c hc g (by simp), EW a b h2 fun c hc q hq => ?_, RW, List.append_assoc]
    rcases List.mem_append.1 hc with hc | hc
    · exact hr c hc q (by simp [hq])
    · split at hc
      · simp at hc; subst hc
        intro e
        have : gX g.1 q.1 < 0 := h1 q hq
        simp only at e
        rw [e] at this
        exact AH this
      · simp at hc

theorem IM {a b : Int} {e : aI} : inW a b (jE e) = true ↔ 0 < e.Net ∧ a ≤ e.At ∧ e.At < b := by
  unfold inW jE
  simp only [Bool.and_eq_true, decide_eq_true_eq]

theorem BH {a b : Int} (ha : 0 ≤ a) : ∀ (l : List aI) (rs : List cG), (l.filter lC).foldl xW ⟨⟨a, b⟩, rs⟩ = ⟨⟨a, b⟩, l.foldl (oJ a b) rs⟩
  | [], rs => rfl
  | e :: l, rs => by
    cases h : lC e with
    | true =>
      have hp : 0 < e.Net ∧ -1 < e.At := by simpa [lC] using h
      simp only [List.filter_cons, h, if_true, List.foldl_cons]
      by_cases hw : e.At < a ∨ b ≤ e.At
      · have e1 : xW ⟨⟨a, b⟩, rs⟩ e = ⟨⟨a, b⟩, rs⟩ := by unfold xW; rw [if_pos hw]
        have e2 : oJ a b rs e = rs := by
          unfold oJ
          have : inW a b (jE e) = false := by
            cases hq : inW a b (jE e) with
            | false => rfl
            | true => have := IM.1 hq; omega
          rw [this]; rfl
        rw [e1, e2, BH ha l rs]
      · have e1 : xW ⟨⟨a, b⟩, rs⟩ e = ⟨⟨a, b⟩, wY rs e⟩ := by unfold xW; rw [if_neg hw]
        have e2 : oJ a b rs e = wY rs e := by
          unfold oJ
          have : inW a b (jE e) = true := IM.2 ⟨hp.1, by omega, by omega⟩
          rw [this]; rfl
        rw [e1, e2, BH ha l (wY rs e)]
    | false =>
      have hp : ¬ (0 < e.Net ∧ -1 < e.At) := by simpa [lC] using h
      have e2 : oJ a b rs e = rs := by
        unfold oJ
        have : inW a b (jE e) = false := by
          cases hq : inW a b (jE e) with
          | false => rfl
          | true => have := IM.1 hq; omega
        rw [this]; rfl
      simp only [List.filter_cons, h, Bool.false_eq_true, if_false, List.foldl_cons, e2]
      exact BH ha l rs

def RX (l : List aI) (run : List Int) : bJ := ⟨⟨run.getD 0 0, run.getD (run.length - 1) 0 + 1⟩, DV (run.getD 0 0) (run.getD (run.length - 1) 0 + 1) (groups l)⟩

def IL (rs : List cG) (r : List aI) : Prop := rs.length + r.length ≤ 1000000 ∧ (∀ c ∈ rs, c.Row.length ≤ 17592186044416 ∧ 0 ≤ c.N ∧ c.N + 1048576 * r.length ≤ 4503599627370496) ∧ ∀ e ∈ r, e.Row.length ≤ 4398046510976 ∧ e.Net ≤ 1048576

theorem JR {rs : List cG} {e : aI} {r : List aI} (h : IL rs (e :: r)) : IL rs r := by
  obtain ⟨h1, h2, h3⟩ := h
  simp only [List.length_cons] at h1 h2
  exact ⟨by omega, fun c hc => by have := h2 c hc; omega, fun q hq => h3 q (by simp [hq])⟩

theorem WU {rs : List cG} {e : aI} {r : List aI} (h : IL rs (e :: r)) (hn : 0 < e.Net) : IL (wY rs e) r := by
  obtain ⟨h1, h2, h3⟩ := h
  have he := h3 e (by simp)
  simp only [List.length_cons] at h1 h2
  unfold wY
  split
  · rename_i hc
    have hm := h2 _ (CB hc.1)
    refine ⟨by rw [List.length_set]; omega, fun c hcm => ?_, fun q hq => h3 q (by simp [hq])⟩
    rcases List.mem_or_eq_of_mem_set hcm with hcm | rfl
    · have := h2 c hcm; omega
    · refine ⟨hm.1, ?_⟩; simp only; omega
  · refine ⟨by simp only [List.length_append, List.length_cons, List.length_nil]; omega, fun c hcm => ?_, fun q hq => h3 q (by simp [hq])⟩
    rcases List.mem_append.1 hcm with hcm | hcm
    · have := h2 c hcm; omega
    · simp at hcm; subst hcm; simp only; omega

theorem SH {l : List aI} {t p : bJ} {e : aI} {r : List aI} (h : IL p.Rows (e :: r)) (hr : lC e = true) : mO l t p e = some (.inl (t, xW p e)) := by
  obtain ⟨h1, h2, h3⟩ := h
  have he := h3 e (by simp)
  have hn : 0 < e.Net := by simp [lC] at hr; omega
  simp only [List.length_cons] at h1 h2
  unfold mO xW
  by_cases hw : e.At < p.Span.From ∨ p.Span.To ≤ e.At
  · have : (decide (e.At < p.Span.From) || decide (p.Span.To ≤ e.At)) = true := by simpa using hw
    rw [this, cond_true, if_pos hw]
  · have : (decide (e.At < p.Span.From) || decide (p.Span.To ≤ e.At)) = false := by simpa using hw
    rw [this, cond_false, if_neg hw]
    have w1 : IntKind.i64.wrap (((p.Rows.length : Nat) : Int) - 1) = ((p.Rows.length : Nat) : Int) - 1 := dG (by omega) (by omega)
    rw [w1]
    by_cases h0 : 0 < p.Rows.length
    · have c1 : (0 : Int) ≤ ((p.Rows.length : Nat) : Int) - 1 ∧ ((p.Rows.length : Nat) : Int) - 1 < ((p.Rows.length : Nat) : Int) := ⟨by omega, by omega⟩
      have e1 : Int.toNat (((p.Rows.length : Nat) : Int) - 1) = p.Rows.length - 1 := by omega
      have e2 : p.Rows.getD (p.Rows.length - 1) default = xE p.Rows := rfl
      have hm := h2 _ (CB h0)
      rw [aK (fun _ => c1), decide_eq_true c1.1]
      simp only [cX, cond_true, e1, e2, RK _ e.Row hm.1, Option.bind_some, Bool.true_and]
      by_cases hq : (xE p.Rows).Row = e.Row
      · rw [decide_eq_true hq, cond_true, aK c1, aK c1]
        unfold wY
        rw [if_pos ⟨h0, hq⟩, dG (by omega) (by omega)]
      · rw [decide_eq_false hq, cond_false, EK he.1, Option.bind_some, aK (by simp only [List.length_cons, List.length_nil]; omega)]
        unfold wY
        rw [if_neg fun hc => hq hc.2]
    · have c0 : decide ((0 : Int) ≤ ((p.Rows.length : Nat) : Int) - 1) = false := by rw [decide_eq_false_iff_not]; omega
      rw [aK (fun hc => by rw [c0] at hc; cases hc), c0]
      simp only [cX, cond_false, Option.bind_some, Bool.false_and]
      rw [EK he.1, Option.bind_some, aK (by simp only [List.length_cons, List.length_nil]; omega)]
      unfold wY
      rw [if_neg fun hc => h0 hc.1]

theorem HS {l : List aI} (hl : okL l) (hm : mM l = true) {run : List Int} (h0 : 0 < run.length) (h1 : run.length ≤ 1000000) (hr : ∀ x ∈ run, 0 ≤ x ∧ x < 1125899906842624) : pH l run = some (RX l run) := by
  unfold pH nS qO
  have w1 : IntKind.i64.wrap (((run.length : Nat) : Int) - 1) = ((run.length : Nat) : Int) - 1 := dG (by omega) (by omega)
  have e1 : Int.toNat (((run.length : Nat) : Int) - 1) = run.length - 1 := by omega
  have hg : ∀ i, i < run.length → 0 ≤ run.getD i 0 ∧ run.getD i 0 < 1125899906842624 := fun i hi => by
    rw [List.getD_eq_getElem?_getD, List.getElem?_eq_getElem hi]; exact hr _ (List.getElem_mem _)
  have ha := hg 0 h0
  have hb := hg (run.length - 1) (by omega)
  rw [aK (by omega), w1, aK (by omega), Option.bind_some, e1, qH, qH, show Int.toNat (0 : Int) = 0 from rfl, dG (by omega) (by omega)]
  have hn := (oO hm).1
  rw [HC (by omega) (fun (s : bJ × bJ) e => (s.1, xW s.2 e)) (fun s r => IL s.2.Rows r) (fun s e r hI => ⟨fun hrise => ⟨SH hI hrise, ?_⟩, fun _ => JR hI⟩)
    ⟨by simp; omega, by simp, fun e he => ⟨hl.2 e he, (AU hm he).2.2.2.2.1⟩⟩, Option.bind_some, Sum.elim_inl]
  · have key : ∀ (es : List aI) (s : bJ × bJ), (es.foldl (fun (s : bJ × bJ) e => (s.1, xW s.2 e)) s).2 = es.foldl xW s.2 := by
      intro es
      induction es with
      | nil => intro s; rfl
      | cons e es ih => intro s; rw [List.foldl_cons, List.foldl_cons, ih]
    rw [key]
    simp only
    rw [BH ha.1]
    have hfl := wH l
    have hsg := EW (run.getD 0 0) (run.getD (run.length - 1) 0 + 1) (gs := groups l) (rs := []) (oO hm).2.2 (by simp)
    rw [hfl] at hsg
    rw [hsg, List.nil_append]
    rfl
  · simp only
    unfold xW
    split
    · exact JR hI
    · exact WU hI (by simp [lC] at hrise; omega)

def AK (n : Nat) (mk : List Int → bJ) : List Int → List bJ
  | [] => []
  | x :: r => (if n ≤ r.length + 1 then [mk ((x :: r).take n)] else []) ++ AK n mk r

theorem EY {n : Nat} {mk : List Int → bJ} : ∀ {r : List Int}, r.length < n → AK n mk r = []
  | [], _ => rfl
  | x :: r, h => by
    simp only [List.length_cons] at h
    unfold AK
    rw [if_neg (by omega), EY (by omega)]; rfl

theorem AD {l : List aI} (hl : okL l) (hm : mM l = true) {n : Int} (h1 : 1 ≤ n) (h2 : n ≤ 64) : ∀ (rest : List Int) (out : List bJ), (∀ x ∈ rest, 0 ≤ x ∧ x < 1125899906842624) → out.length + rest.length ≤ 1000000 →
    lp (fun s : List Int × List bJ => kR l n s.1 s.2) (rest, out) = some (out ++ AK n.toNat (RX l) rest)
  | [], out, _, _ => by
    refine cO ?_
    simp only [kR, decide_eq_false (show ¬ n ≤ ((([] : List Int).length : Nat) : Int) by simp; omega), cond_false]
    simp [AK]
  | x :: r, out, hr, ho => by
    simp only [List.length_cons] at ho
    by_cases hc : n ≤ (((x :: r).length : Nat) : Int)
    · have hlen : n.toNat ≤ (x :: r).length := by omega
      have ht : ((x :: r).take n.toNat).length = n.toNat := by rw [List.length_take]; omega
      have hw := HS hl hm (run := (x :: r).take n.toNat) (by omega) (by omega) (fun y hy => hr y (List.mem_of_mem_take hy))
      have hb : kR l n (x :: r) out = some (.inl (r, out ++ [RX l ((x :: r).take n.toNat)])) := by
        simp only [kR, decide_eq_true hc, cond_true]
        rw [aK ⟨by omega, Int.le_refl _, hc⟩, hw, Option.bind_some, aK (by simp only [List.length_cons, List.length_nil]; omega), aK ⟨by omega, by simp only [List.length_cons]; omega⟩]
        rfl
      rw [fI hb, AD hl hm h1 h2 r _ (fun y hy => hr y (by simp [hy])) (by simp only [List.length_append, List.length_cons, List.length_nil]; omega)]
      conv => rhs; unfold AK
      simp only [List.length_cons] at hlen
      rw [if_pos hlen, List.append_assoc]
    · have hlen : (x :: r).length < n.toNat := by omega
      rw [EY hlen]
      refine cO ?_
      simp only [kR, decide_eq_false hc, cond_false, List.append_nil]

def MW (l : List aI) (n frm : Int) : List bJ × Int :=
  if lX l n ≠ 0 then ([], lX l n) else if frm < 0 ∨ 1125899906842624 < frm then ([], 13) else
  if 1024 < (((cJ l).drop (kF (cJ l) frm)).length : Int) - n + 1 then ([], 7) else (AK n.toNat (RX l) ((cJ l).drop (kF (cJ l) frm)), 0)

theorem IT {l : List aI} (hl : okL l) (n frm : Int) : qG l n frm = some (MW l n frm) := by
  unfold qG MW
  rw [yI hl, Option.bind_some]
  by_cases h : lX l n = 0
  · obtain ⟨hm, ht, n1, n2⟩ := uT h
    obtain ⟨f1, f2, f3, f4⟩ := vQ hm
    rw [decide_eq_true h, Bool.not_true, cond_false, if_neg (by simpa using h)]
    by_cases h1 : frm < 0 ∨ 1125899906842624 < frm
    · have : (decide (frm < 0) || decide (1125899906842624 < frm)) = true := by simpa using h1
      rw [this, cond_true, if_pos h1]
    · have : (decide (frm < 0) || decide (1125899906842624 < frm)) = false := by simpa using h1
      rw [this, cond_false, if_neg h1, vE (oO hm).1 (CO hm), Option.bind_some]
      obtain ⟨⟨b, hb⟩, _, _⟩ := RI f2 (by omega) frm
      have hle := FP (cJ l) frm
      rw [hb, Option.bind_some, aK ⟨by omega, by omega, Int.le_refl _, Int.le_refl _⟩]
      simp only [Int.toNat_natCast, List.take_length]
      have hdl : ((cJ l).drop (kF (cJ l) frm)).length ≤ 4096 := by rw [List.length_drop]; omega
      have w1 : IntKind.i64.wrap (IntKind.i64.wrap (((((cJ l).drop (kF (cJ l) frm)).length : Nat) : Int) - n) + 1) = ((((cJ l).drop (kF (cJ l) frm)).length : Nat) : Int) - n + 1 := by
        rw [dG (n := ((((cJ l).drop (kF (cJ l) frm)).length : Nat) : Int) - n) (by omega) (by omega), dG (by omega) (by omega)]
      rw [w1]
      by_cases h3 : 1024 < ((((cJ l).drop (kF (cJ l) frm)).length : Nat) : Int) - n + 1
      · rw [decide_eq_true h3, cond_true, if_pos h3]
      · rw [decide_eq_false h3, cond_false, if_neg h3]
        unfold rY
        rw [AD hl hm n1 n2 _ [] (fun x hx => f4 x (List.mem_of_mem_drop hx)) (by simp only [List.length_nil]; omega)]
        rfl
  · rw [decide_eq_false h, Bool.not_false, cond_true, if_pos h]

end Go.Abs
namespace Go.Abs
open Go
def l29 : List aI := [⟨[QY], 2, 1⟩, ⟨[EA], 5, 1⟩, ⟨[EA], 7, -1⟩, ⟨[EA], 8, 1⟩]

theorem NV : okL l29 := ⟨by decide, by decide⟩

theorem VN : oP l29 = ([2, 5, 8], 0) := by decide +kernel

theorem ZX : GK l29 2 6 = (5, 0) := by decide +kernel

theorem YN : MW l29 2 0 = ([⟨⟨2, 6⟩, [⟨[QY], 1⟩, ⟨[EA], 1⟩]⟩, ⟨⟨5, 9⟩, [⟨[EA], 2⟩]⟩], 0) := by decide +kernel

theorem JN : pZ = some true := by
  unfold pZ
  have h1 := yC NV
  have h2 := BP NV 2 6
  have h3 := IT NV 2 0
  rw [VN] at h1
  rw [ZX] at h2
  rw [YN] at h3
  simp only [l29, QY, EA] at h1 h2 h3
  rw [h1, Option.bind_some, h2, Option.bind_some, h3, Option.bind_some, aK (fun _ => by decide), aK (fun _ => by decide), aK (fun _ => by decide), aK (fun _ => by decide), aK (fun _ => by decide)]
  rfl

end Go.Abs
namespace Go.Abs
open Go
theorem aAi {l : List aI} (m : ∀ a ∈ l, tZ a) (y : List.length l * 40 ≤ 140737488351232) : okL l :=
  ⟨by omega, fun e he => by have := (m e he).1.2; omega⟩

end Go.Abs
namespace Go.Abs
open Go
theorem EF (l0 : (List aI)) (m0 : ∀ a ∈ l0, tZ a) (y0 : List.length l0 * 40 ≤ 140737488351232) (a1 : Int) (w1 : wB a1) (a2 : Int) (w2 : wB a2) : nM l0 a1 a2 = some true := by
  have k0 := aAi m0 y0
  unfold nM
  rw [WZ, Option.bind_some]
  cases decide (((l0.length : Nat) : Int) ≤ 60) with
  | false => simp only [Bool.not_false, cond_true, JN, Option.bind_some]
  | true =>
    rw [Bool.not_true, cond_false, yC k0, Option.bind_some, BR k0, Option.bind_some, decide_eq_true rfl, decide_eq_true rfl]
    simp only [Bool.not_true, Bool.or_self, cond_false]
    unfold nC
    have hc : (oP l0).1.length ≤ 1000000000000 := by
      unfold oP
      split
      · simp
      · rename_i h
        have := (vQ (uT (l := l0) (n := 1) (by simpa using h)).1).2.2.1
        simp only; omega
    rw [CJ (l := (oP l0).1) (body := fun s => kC l0 a1 a2 (oP l0).1 (oP l0).1 s) (fun i => i) (fun _ => false) (.inr false) (.inl ()) ?_ ?_]
    · simp only [List.any_eq_true, Bool.false_eq_true, and_false, exists_false, if_false, Option.bind_some, Sum.elim_inl, lH, BP k0, RC k0, JN, decide_true, Bool.and_self]
    · intro i a ha
      obtain ⟨d1, d2, d3, d4⟩ := idx ha (by omega)
      simp only [kC, d1, cond_true, aK d2, d3, d4, decide_true, Bool.not_true, cond_false]
      rfl
    · simp only [kC, iZ, cond_false]

end Go.Abs
