/- What the law CountsParts stands on: the framework, the given functions as plain functions, their walks, and the plain laws; part 6. -/
import Derived.Test.YtfhaegpflbcmgaaCountsPartsZ5
set_option linter.unusedSimpArgs false
set_option linter.unusedVariables false
namespace Go.Abs
open Go
theorem LR {l : List aI} (hl : okL l) (hm : lK l = true) {n : Int} (n1 : 1 ≤ n) (n2 : n ≤ 64) (frm : Int) {all : List Int} (hal : all.length ≤ 4096) (hr : ∀ x ∈ all, 0 ≤ x ∧ x < 1125899906842624) {m : Nat} (hml : m ≤ all.length) (h1 : ∀ i, i < m → all.getD i 0 < frm) (h2 : ∀ i, m ≤ i → i < all.length → frm ≤ all.getD i 0) :
    ∀ (d i : Nat) (out : List aO), all.length - i = d → i ≤ all.length → out.length ≤ i → lp (fun s : List aO × Int => jT l n frm all (rowsOf l) s.1 s.2) (out, (i : Int)) = some (out ++ rE n.toNat (GS l) (all.drop (max i m))) := by
  have hrl : (rowsOf l).length ≤ 4096 := by
    have h1 : (SQ l).length = (rowsOf l).length := by simp [SQ]
    have h2 := IE l
    rw [FH hm] at h1
    have := (mJ hm).1
    omega
  intro d
  induction d with
  | zero =>
    intro i out hd hi ho
    have hie : i = all.length := by omega
    subst hie
    have w1 : IntKind.i64.wrap (((all.length : Nat) : Int) + n) = ((all.length : Nat) : Int) + n := dB (by omega) (by omega)
    rw [xD (by rw [List.length_drop]; omega), List.append_nil]
    refine cQ ?_
    simp only [jT, w1, decide_eq_false (show ¬ ((all.length : Nat) : Int) + n ≤ ((all.length : Nat) : Int) by omega), cond_false]
  | succ d ih =>
    intro i out hd hi ho
    have hlt : i < all.length := by omega
    have w1 : IntKind.i64.wrap (((i : Nat) : Int) + n) = ((i : Nat) : Int) + n := dB (by omega) (by omega)
    have w2 : IntKind.i64.wrap (((i : Nat) : Int) + n - 1) = ((i : Nat) : Int) + n - 1 := dB (by omega) (by omega)
    have w3 : IntKind.i64.wrap (((i : Nat) : Int) + 1) = ((i + 1 : Nat) : Int) := by rw [dB (by omega) (by omega)]; omega
    have hge : ∀ k, k < all.length → 0 ≤ all.getD k 0 ∧ all.getD k 0 < 1125899906842624 := fun k hk => by
      rw [List.getD_eq_getElem?_getD, List.getElem?_eq_getElem hk]; exact hr _ (List.getElem_mem _)
    by_cases hc : ((i : Nat) : Int) + n ≤ ((all.length : Nat) : Int)
    · have c1 : (0 : Int) ≤ ((i : Nat) : Int) ∧ ((i : Nat) : Int) < ((all.length : Nat) : Int) := ⟨by omega, by omega⟩
      by_cases hf : all.getD i 0 < frm
      · have him : i < m := by
          apply Classical.byContradiction; intro hn
          have := h2 i (by omega) hlt; omega
        have hb : jT l n frm all (rowsOf l) out ((i : Nat) : Int) = some (.inl (out, ((i + 1 : Nat) : Int))) := by
          simp only [jT, nY, w1, decide_eq_true hc, cond_true, aJ c1, Int.toNat_natCast, nT, decide_eq_true hf, w3]
        rw [fB hb, ih (i + 1) out (by omega) (by omega) (by omega), show max (i + 1) m = max i m by omega]
      · have him : m ≤ i := by
          apply Classical.byContradiction; intro hn
          exact hf (h1 i (by omega))
        have c2 : (0 : Int) ≤ ((i : Nat) : Int) + n - 1 ∧ ((i : Nat) : Int) + n - 1 < ((all.length : Nat) : Int) := ⟨by omega, by omega⟩
        have e1 : Int.toNat (((i : Nat) : Int) + n - 1) = i + n.toNat - 1 := by omega
        have hgb := hge (i + n.toNat - 1) (by omega)
        have hb : jT l n frm all (rowsOf l) out ((i : Nat) : Int) = some (.inl (out ++ [⟨⟨all.getD i 0, all.getD (i + n.toNat - 1) 0 + 1⟩, uU (all.getD i 0) (all.getD (i + n.toNat - 1) 0 + 1) (groups l)⟩], ((i + 1 : Nat) : Int))) := by
          simp only [jT, w1, decide_eq_true hc, cond_true, aJ c1, Int.toNat_natCast, nT, decide_eq_false hf, cond_false, w2, aJ c2, e1, tY]
          rw [dB (n := all.getD (i + n.toNat - 1) 0 + 1) (by omega) (by omega)]
          rw [PO hl hm hrl (a := all.getD i 0) (b := all.getD (i + n.toNat - 1) 0 + 1) c1 (by rw [Int.toNat_natCast]; rfl) (by rw [w1, w2]; exact c2) (by rw [w1, w2, e1]; rfl), Option.bind_some]
          simp only [qU, nY, w3]
          rw [aJ (by simp only [List.length_cons, List.length_nil]; omega)]
          have : (rowsOf l).map (fun r => (r, dR l r)) = groups l := by rw [← FH hm]; rfl
          rw [this]
        rw [fB hb, ih (i + 1) _ (by omega) (by omega) (by simp only [List.length_append, List.length_cons, List.length_nil]; omega), show max (i + 1) m = i + 1 by omega, show max i m = i by omega]
        have ed : all.drop i = all.getD i 0 :: all.drop (i + 1) := by
          rw [List.drop_eq_getElem_cons hlt, List.getD_eq_getElem?_getD, List.getElem?_eq_getElem hlt]; rfl
        conv => rhs; rw [ed]; unfold rE
        rw [if_pos (by rw [List.length_drop]; omega), ← ed, List.append_assoc]
        congr 2
        have hl1 : (List.take n.toNat (List.drop i all)).length = n.toNat := by rw [List.length_take, List.length_drop]; omega
        have g0 : (List.take n.toNat (List.drop i all)).getD 0 0 = all.getD i 0 := by
          rw [List.getD_eq_getElem?_getD, List.getD_eq_getElem?_getD, List.getElem?_take, if_pos (by omega), List.getElem?_drop]; rfl
        have g1 : (List.take n.toNat (List.drop i all)).getD (n.toNat - 1) 0 = all.getD (i + n.toNat - 1) 0 := by
          rw [List.getD_eq_getElem?_getD, List.getD_eq_getElem?_getD, List.getElem?_take, if_pos (by omega), List.getElem?_drop, show i + (n.toNat - 1) = i + n.toNat - 1 by omega]
        unfold GS
        rw [hl1, g0, g1]
    · rw [xD (by rw [List.length_drop]; omega), List.append_nil]
      refine cQ ?_
      simp only [jT, w1, decide_eq_false hc, cond_false]

theorem LQ {l : List aI} (hl : okL l) (n frm : Int) : rN l n frm = some (vZ l n frm) := by
  unfold rN vZ
  rw [FV hl, Option.bind_some]
  by_cases h : lV l n = 0
  · obtain ⟨hm, ht, n1, n2⟩ := vO h
    obtain ⟨f1, f2, f3, f4⟩ := wA hm
    rw [decide_eq_true h, Bool.not_true, cond_false, if_neg (by simpa using h)]
    simp only [wL, Option.bind_some]
    by_cases h1 : frm < 0 ∨ 1125899906842624 < frm
    · have : (!(decide (0 ≤ frm) && decide (frm ≤ 1125899906842624))) = true := by
        simp only [Bool.not_eq_true', Bool.and_eq_false_iff, decide_eq_false_iff_not]; omega
      rw [this, cond_true, if_pos h1]
    · have : (!(decide (0 ≤ frm) && decide (frm ≤ 1125899906842624))) = false := by
        simp only [Bool.not_eq_false', Bool.and_eq_true, decide_eq_true_eq]; omega
      rw [this, cond_false, if_neg h1, LP hl, Option.bind_some, BP hl (fun e he => (yP hm he).1) (by have := (mJ hm).1; omega), Option.bind_some]
      have hse : (wW l).1 = cH l := by
        unfold wW
        rw [UB hm ht (by omega) (by omega)]; rfl
      rw [hse]
      unfold tW
      obtain ⟨_, hs1, hs2⟩ := RX f2 (by omega) frm
      have hle := GN (cH l) frm
      have k1 : ∀ i, i < jA (cH l) frm → (cH l).getD i 0 < frm := fun i hi => by
        have hm1 : (cH l).getD i 0 ∈ (cH l).take (jA (cH l) frm) := by
          refine List.mem_of_getElem? (i := i) ?_
          rw [List.getElem?_take, if_pos hi, List.getD_eq_getElem?_getD, List.getElem?_eq_getElem (by omega)]; rfl
        rw [← hs1] at hm1
        simpa using (List.mem_filter.1 hm1).2
      have k2 : ∀ i, jA (cH l) frm ≤ i → i < (cH l).length → frm ≤ (cH l).getD i 0 := fun i hi hil => by
        have hm1 : (cH l).getD i 0 ∈ (cH l).drop (jA (cH l) frm) := by
          refine List.mem_of_getElem? (i := i - jA (cH l) frm) ?_
          rw [List.getElem?_drop, show jA (cH l) frm + (i - jA (cH l) frm) = i by omega, List.getD_eq_getElem?_getD, List.getElem?_eq_getElem hil]; rfl
        rw [← hs2] at hm1
        simpa using (List.mem_filter.1 hm1).2
      have key := LR hl hm n1 n2 frm f3 f4 hle k1 k2 (cH l).length 0 [] rfl (by omega) (by simp)
      rw [show ((0 : Nat) : Int) = 0 from rfl] at key
      rw [key, Option.bind_some, List.nil_append, show max 0 (jA (cH l) frm) = jA (cH l) frm by omega]
      unfold qH
      have hwl := EP (n := n.toNat) (mk := GS l) (by omega) ((cH l).drop (jA (cH l) frm))
      rw [hwl]
      by_cases h3 : 1024 < ((((cH l).drop (jA (cH l) frm)).length : Nat) : Int) - n + 1
      · rw [if_pos h3, decide_eq_true (by omega)]; rfl
      · rw [if_neg h3, decide_eq_false (by omega)]; rfl
  · rw [decide_eq_false h, Bool.not_false, cond_true, if_pos h]

theorem KS {n : Nat} {mk : List Int → aO} {p : aO} : ∀ {r : List Int}, p ∈ rE n mk r → ∃ run, p = mk run
  | [], h => by simp [rE] at h
  | x :: r, h => by
    unfold rE at h
    rcases List.mem_append.1 h with h | h
    · split at h
      · simp at h; exact ⟨_, h⟩
      · simp at h
    · exact KS h

theorem UP {gs : List (List aB × List aM)} (hg : ∀ g ∈ gs, mG g.2 = true ∧ g.1.length ≤ 4398046510976) (hn : gs.length ≤ 1000000) (a b : Int) : okC (uU a b gs) := by
  refine ⟨by have : (uU a b gs).length ≤ gs.length := List.length_filterMap_le ..; omega, fun c hc => ?_⟩
  obtain ⟨g, h1, h2⟩ := List.mem_filterMap.1 hc
  split at h2
  · simp only [Option.some.injEq] at h2; subst h2
    have := (hg g h1).2; simp only; omega
  · cases h2

theorem RZ {l : List aI} (hl : okL l) (n frm : Int) : (vZ l n frm).1.length ≤ 4097 ∧ ∀ p ∈ (vZ l n frm).1, okC p.Rows := by
  unfold vZ
  by_cases h : lV l n = 0
  · obtain ⟨hm, ht, n1, n2⟩ := vO h
    obtain ⟨g1, g2⟩ := TB hl hm
    obtain ⟨_, _, f3, _⟩ := wA hm
    rw [if_neg (by simpa using h)]
    split
    · simp
    · split
      · simp
      · simp only
        refine ⟨by rw [EP (by omega), List.length_drop]; omega, fun p hp => ?_⟩
        obtain ⟨run, rfl⟩ := KS hp
        exact UP g1 (by omega) _ _
  · rw [if_pos h]; simp

def l29 : List aI := [⟨[SG], 2, 1⟩, ⟨[EX], 5, 1⟩, ⟨[EX], 7, -1⟩, ⟨[EX], 8, 1⟩]

theorem MO : okL l29 := ⟨by decide, by decide⟩

theorem XU : wW l29 = ([2, 5, 8], 0) := by decide +kernel

theorem aAv : TM l29 2 6 = (5, 0) := by decide +kernel

theorem ZS : vZ l29 2 0 = ([⟨⟨2, 6⟩, [⟨[SG], 1⟩, ⟨[EX], 1⟩]⟩, ⟨⟨5, 9⟩, [⟨[EX], 2⟩]⟩], 0) := by decide +kernel

theorem KP : qM = some true := by
  unfold qM
  have h1 := HB MO
  have h2 := LN MO 2 6
  have h3 := BD MO 2 0
  rw [XU] at h1
  rw [aAv] at h2
  rw [ZS] at h3
  simp only [l29, SG, EX] at h1 h2 h3
  rw [h1, Option.bind_some, h2, Option.bind_some, h3, Option.bind_some, aJ (fun _ => by decide), aJ (fun _ => by decide), aJ (fun _ => by decide), aJ (fun _ => by decide), aJ (fun _ => by decide)]
  rfl

end Go.Abs
namespace Go.Abs
open Go
theorem aAR {l : List aI} (m : ∀ a ∈ l, uL a) (y : List.length l * 40 ≤ 140737488351232) : okL l :=
  ⟨by omega, fun e he => by have := (m e he).1.2; omega⟩

end Go.Abs
namespace Go.Abs
open Go
theorem GH (l0 : (List aI)) (m0 : ∀ a ∈ l0, uL a) (y0 : List.length l0 * 40 ≤ 140737488351232) (a1 : Int) (w1 : wV a1) (a2 : Int) (w2 : wV a2) : oS l0 a1 a2 = some true := by
  have k0 := aAR m0 y0
  unfold oS
  rw [WR, Option.bind_some]
  cases decide (((l0.length : Nat) : Int) ≤ 60) with
  | false => simp only [Bool.not_false, cond_true, KP, Option.bind_some]
  | true =>
    obtain ⟨h1, h2⟩ := RZ k0 a1 a2
    simp only [Bool.not_true, cond_false, BD k0, LQ k0, KP, Option.bind_some, cV, decide_true, Bool.and_self, cond_true, MX (show (vZ l0 a1 a2).1.length ≤ 1000000 by omega) h2]

end Go.Abs
