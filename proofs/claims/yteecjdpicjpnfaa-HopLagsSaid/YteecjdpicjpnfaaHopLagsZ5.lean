/- What the law HopLags stands on: the framework, the given functions as plain functions, their walks, and the plain laws; part 5. -/
import Derived.Test.YteecjdpicjpnfaaHopLagsZ4
set_option linter.unusedSimpArgs false
set_option linter.unusedVariables false
namespace Go.Abs
open Go
theorem QO {x n : Int} (h1 : 1 ≤ x) (h2 : x ≤ 255) (hn : 0 ≤ n ∧ n ≤ 100) : ∃ k : Nat, kV x n = some (n + k + 1) ∧ k ≤ 7 ∧ (2 : Int) ^ k ≤ x := by
  obtain ⟨k, e, hk⟩ := QI ⟨x.toNat, by omega⟩ (by simp; omega)
  refine ⟨k.val, ?_, by omega, ?_⟩
  · show (bF (0 ≤ (IntKind.u8.wrap x) ∧ (IntKind.u8.wrap x) < ((ByteArray.size CE : Nat) : Int)) <| some (IntKind.i64.wrap (n + (IntKind.i64.wrap (bt CE (IntKind.u8.wrap x)))))) = _
    rw [VN (by omega) h2, aO (by rw [HC]; omega)]
    simp only at e
    rw [Int.toNat_of_nonneg (by omega)] at e
    rw [e, dY (n := (k.val : Int) + 1) (by omega) (by omega), dY (by omega) (by omega)]
    congr 1
    omega
  · simp only at hk
    have : ((2 ^ k.val : Nat) : Int) ≤ ((x.toNat : Nat) : Int) := by exact_mod_cast hk
    rw [Int.toNat_of_nonneg (by omega)] at this
    simpa using this

theorem CG {x m : Int} (hm : 0 < m) : Int.fdiv x m = x / m := Int.fdiv_eq_ediv_of_nonneg _ (by omega)

theorem SQ {x n : Int} (h1 : 1 ≤ x) (h2 : x ≤ 65535) (hn : 0 ≤ n ∧ n ≤ 90) : ∃ k : Nat, jW x n = some (n + k + 1) ∧ k ≤ 15 ∧ (2 : Int) ^ k ≤ x := by
  unfold jW
  by_cases h : 256 ≤ x
  · have hd : Int.fdiv x (2 ^ (min (Int.toNat (8 : Int)) 64)) = x / 256 := by rw [show (2 ^ (min (Int.toNat (8 : Int)) 64) : Int) = 256 from by decide]; exact CG (by omega)
    obtain ⟨k, e, h3, h4⟩ := QO (x := x / 256) (n := n + 8) (by omega) (by omega) (by omega)
    refine ⟨k + 8, ?_, by omega, ?_⟩
    · simp only [h, decide_true, cond_true]
      rw [aO (by decide), hd, dY (n := n + 8) (by omega) (by omega), e]
      congr 1; omega
    · rw [Int.pow_add]; have : (2 : Int) ^ 8 = 256 := by decide
      rw [this]; omega
  · obtain ⟨k, e, h3, h4⟩ := QO (x := x) (n := n) h1 (by omega) (by omega)
    exact ⟨k, by simp only [h, decide_false, cond_false, e], by omega, h4⟩

theorem QH {x n : Int} (h1 : 1 ≤ x) (h2 : x ≤ 4294967295) (hn : 0 ≤ n ∧ n ≤ 70) : ∃ k : Nat, jZ x n = some (n + k + 1) ∧ k ≤ 31 ∧ (2 : Int) ^ k ≤ x := by
  unfold jZ
  by_cases h : 65536 ≤ x
  · have hd : Int.fdiv x (2 ^ (min (Int.toNat (16 : Int)) 64)) = x / 65536 := by rw [show (2 ^ (min (Int.toNat (16 : Int)) 64) : Int) = 65536 from by decide]; exact CG (by omega)
    obtain ⟨k, e, h3, h4⟩ := SQ (x := x / 65536) (n := n + 16) (by omega) (by omega) (by omega)
    refine ⟨k + 16, ?_, by omega, ?_⟩
    · simp only [h, decide_true, cond_true]
      rw [aO (by decide), hd, dY (n := n + 16) (by omega) (by omega), e]
      congr 1; omega
    · rw [Int.pow_add]; have : (2 : Int) ^ 16 = 65536 := by decide
      rw [this]; omega
  · obtain ⟨k, e, h3, h4⟩ := SQ (x := x) (n := n) h1 (by omega) (by omega)
    exact ⟨k, by simp only [h, decide_false, cond_false, e], by omega, h4⟩

theorem RL {x : Int} (h1 : 1 ≤ x) (h2 : x ≤ 9223372036854775807) : ∃ k : Nat, jO x = some ((k : Int) + 1) ∧ k ≤ 63 ∧ (2 : Int) ^ k ≤ x := by
  unfold jO mK
  by_cases h : 4294967296 ≤ x
  · have hd : Int.fdiv x (2 ^ (min (Int.toNat (32 : Int)) 64)) = x / 4294967296 := by rw [show (2 ^ (min (Int.toNat (32 : Int)) 64) : Int) = 4294967296 from by decide]; exact CG (by omega)
    obtain ⟨k, e, h3, h4⟩ := QH (x := x / 4294967296) (n := 32) (by omega) (by omega) (by omega)
    refine ⟨k + 32, ?_, by omega, ?_⟩
    · simp only [h, decide_true, cond_true]
      rw [aO (by decide), hd, e]
      simp only [Option.bind_some]
      congr 1; omega
    · rw [Int.pow_add]; have : (2 : Int) ^ 32 = 4294967296 := by decide
      rw [this]; omega
  · obtain ⟨k, e, h3, h4⟩ := QH (x := x) (n := 0) h1 (by omega) (by omega)
    refine ⟨k, ?_, by omega, h4⟩
    simp only [h, decide_false, cond_false, e, Option.bind_some]
    congr 1; omega

theorem QY : bt CE 0 = 0 := by decide +kernel

theorem TL : jO 0 = some 0 := by
  have h3 : kV 0 0 = some 0 := by
    show (bF (0 ≤ (IntKind.u8.wrap 0) ∧ (IntKind.u8.wrap 0) < ((ByteArray.size CE : Nat) : Int)) <| some (IntKind.i64.wrap (0 + (IntKind.i64.wrap (bt CE (IntKind.u8.wrap 0)))))) = _
    rw [VN (by omega) (by omega), aO (by rw [HC]; omega), QY, dY (n := 0) (by omega) (by omega), dY (by omega) (by omega)]
    rfl
  have h2 : jW 0 0 = some 0 := h3
  have h1 : jZ 0 0 = some 0 := h2
  unfold jO mK
  have : decide ((4294967296 : Int) ≤ 0) = false := by decide
  rw [this, cond_false, h1]
  rfl

theorem TB {n : Nat} (h1 : 1 ≤ n) (h2 : n < 2305843009213693951) : ∃ m : Int, kF (n : Int) = some m ∧ 1 ≤ m ∧ m ≤ 2 * n := by
  unfold kF
  rw [zP (by omega) (by omega)]
  obtain ⟨k, e, h3, h4⟩ := RL (x := (n : Int)) (by omega) (by omega)
  have hk : (2 : Int) ^ (k + 1) = 2 * 2 ^ k := by rw [Int.pow_succ]; omega
  have hp : (1 : Int) ≤ 2 ^ k := by
    have : (0 : Int) < 2 ^ k := Int.pow_pos (by decide)
    omega
  rw [e]
  simp only [Option.bind_some]
  rw [aO (by omega), show min (Int.toNat ((k : Int) + 1)) 64 = k + 1 by omega, Int.one_mul, hk, zP (by omega) (by omega)]
  exact ⟨_, rfl, by omega, by omega⟩

theorem YE (x : Int) {m : Int} (h0 : 0 ≤ m) (hm : m ≤ 9223372036854775807) : 0 ≤ bH .and .u64 x m ∧ bH .and .u64 x m ≤ m := by
  have h1 : (BitVec.ofInt IntKind.u64.bits x &&& BitVec.ofInt IntKind.u64.bits m).toNat ≤ m.toNat := by
    rw [BitVec.toNat_and]
    refine Nat.le_trans Nat.and_le_right ?_
    rw [BitVec.toNat_ofInt]
    have : IntKind.u64.bits = 64 := rfl
    rw [this]
    omega
  have h2 : bH .and .u64 x m = ((BitVec.ofInt IntKind.u64.bits x &&& BitVec.ofInt IntKind.u64.bits m).toNat : Int) := zP (by omega) (by omega)
  rw [h2]
  omega

theorem PD (r : Int) : ∃ x, kN r = some x := by
  unfold kN
  rw [aO (by decide), aO (by decide), aO (by decide)]
  exact ⟨_, rfl⟩

theorem QX {lo i o : Nat} {d : List Int} (l r m : Int) (hi : i < d.length) (ho : lo + o < d.length) (hl : d.length < 2305843009213693951) :
    eM d (lo : Nat) l r m (i : Nat) (o : Nat) = some (.inl (swp d i (lo + o), r, ((i + 1 : Nat) : Int))) := by
  unfold eM
  rw [wrN (x := (lo : Int) + (o : Int)) (n := lo + o) (by omega) (by omega), wrN (n := i + 1) (by omega) (by omega)]
  simp only [Int.toNat_natCast]
  rw [aO (asN (by omega)), aO (asN (by omega)), aO (asN (by omega)), aO (asN (by omega))]
  rfl

theorem XS {lo n : Nat} {m : Int} (hm : 1 ≤ m ∧ m ≤ 2 * n) (h8 : 8 ≤ n) : ∀ (q i : Nat) (r : Int) (d : List Int), lo + n / 4 * 2 + 2 - i = q → lo ≤ i → i ≤ lo + n / 4 * 2 + 2 → lo + n ≤ d.length → d.length < 2305843009213693951 →
    ∃ d', lp (fun s : List Int × Int × Int => cN (lo : Nat) (n : Nat) m s.1 s.2.1 s.2.2) (d, r, (i : Int)) = some d' ∧ Rel lo (lo + n) d d' := by
  have t4 : IntKind.i64.wrap (Int.tdiv (n : Int) 4) = ((n / 4 : Nat) : Int) ∨ 2305843009213693951 ≤ n := by
    by_cases h : n < 2305843009213693951
    · left
      have : Int.tdiv (n : Int) 4 = ((n / 4 : Nat) : Int) := by rw [Int.tdiv_eq_ediv_of_nonneg (by omega)]; omega
      rw [this]; exact wrN rfl (by omega)
    · right; omega
  intro q
  induction q with
  | zero =>
    intro i r d h1 h2 h3 h4 h5
    have t4 := t4.resolve_right (by omega)
    refine ⟨d, cV ?_, Rel.refl ..⟩
    show cN _ _ _ _ _ _ = _
    unfold cN
    rw [aO (by decide), t4, wrN (x := ((n / 4 : Nat) : Int) * 2) (n := n / 4 * 2) (by omega) (by omega), wrN (x := (lo : Int) + ((n / 4 * 2 : Nat) : Int)) (n := lo + n / 4 * 2) (by omega) (by omega), wrN (x := ((lo + n / 4 * 2 : Nat) : Int) + 1) (n := lo + n / 4 * 2 + 1) (by omega) (by omega)]
    have : decide (((i : Nat) : Int) ≤ ((lo + n / 4 * 2 + 1 : Nat) : Int)) = false := by simp; omega
    rw [this, cond_false]
  | succ q ih =>
    intro i r d h1 h2 h3 h4 h5
    have t4 := t4.resolve_right (by omega)
    obtain ⟨x, hx⟩ := PD r
    obtain ⟨a1, a2⟩ := YE x.1 (m := m - 1) (by omega) (by omega)
    have hd : decide (((i : Nat) : Int) ≤ ((lo + n / 4 * 2 + 1 : Nat) : Int)) = true := by simp; omega
    have step : ∃ o, o < n ∧ cN (lo : Nat) (n : Nat) m d r (i : Nat) = some (.inl (swp d i (lo + o), x.2, ((i + 1 : Nat) : Int))) := by
      unfold cN
      rw [aO (by decide), t4, wrN (x := ((n / 4 : Nat) : Int) * 2) (n := n / 4 * 2) (by omega) (by omega), wrN (x := (lo : Int) + ((n / 4 * 2 : Nat) : Int)) (n := lo + n / 4 * 2) (by omega) (by omega), wrN (x := ((lo + n / 4 * 2 : Nat) : Int) + 1) (n := lo + n / 4 * 2 + 1) (by omega) (by omega), hd, cond_true, hx]
      simp only [Option.bind_some]
      rw [zP (x := m - 1) (by omega) (by omega)]
      have e1 : IntKind.i64.wrap (bH .and .u64 x.1 (m - 1)) = (((bH .and .u64 x.1 (m - 1)).toNat : Nat) : Int) := wrN (by omega) (by omega)
      rw [e1]
      by_cases h : (n : Int) ≤ (((bH .and .u64 x.1 (m - 1)).toNat : Nat) : Int)
      · refine ⟨(bH .and .u64 x.1 (m - 1)).toNat - n, by omega, ?_⟩
        simp only [h, decide_true, cond_true]
        rw [wrN (x := (((bH .and .u64 x.1 (m - 1)).toNat : Nat) : Int) - (n : Int)) (n := (bH .and .u64 x.1 (m - 1)).toNat - n) (by omega) (by omega)]
        exact QX _ _ _ (by omega) (by omega) h5
      · refine ⟨(bH .and .u64 x.1 (m - 1)).toNat, by omega, ?_⟩
        simp only [h, decide_false, cond_false]
        exact QX _ _ _ (by omega) (by omega) h5
    obtain ⟨o, ho, hs⟩ := step
    obtain ⟨d', e, rl⟩ := ih (i + 1) x.2 (swp d i (lo + o)) (by omega) (by omega) (by omega) (by rw [fZ]; exact h4) (by rw [fZ]; exact h5)
    exact ⟨d', (gE (show (fun s : List Int × Int × Int => cN (lo : Nat) (n : Nat) m s.1 s.2.1 s.2.2) (d, r, (i : Int)) = _ from hs)).trans e, (Rel.swp (i := i) (j := lo + o) (by omega) (by omega) (by omega) (by omega)).trans rl⟩

theorem SB {lo hi : Nat} {d : List Int} (h8 : 8 ≤ hi - lo) (h1 : hi ≤ d.length) (h2 : d.length < 2305843009213693951) : ∃ d', fU d (lo : Int) (hi : Int) = some d' ∧ Rel lo hi d d' := by
  unfold fU
  have e1 : IntKind.i64.wrap ((hi : Int) - (lo : Int)) = ((hi - lo : Nat) : Int) := wrN (by omega) (by omega)
  have d1 : decide ((8 : Int) ≤ ((hi - lo : Nat) : Int)) = true := by simp; omega
  obtain ⟨m, em, m1, m2⟩ := TB (n := hi - lo) (by omega) (by omega)
  have t4 : IntKind.i64.wrap (Int.tdiv ((hi - lo : Nat) : Int) 4) = (((hi - lo) / 4 : Nat) : Int) := by
    have : Int.tdiv ((hi - lo : Nat) : Int) 4 = (((hi - lo) / 4 : Nat) : Int) := by rw [Int.tdiv_eq_ediv_of_nonneg (by omega)]; omega
    rw [this]; exact wrN rfl (by omega)
  rw [e1, d1, cond_true, em]
  simp only [Option.bind_some]
  rw [aO (by decide), t4, wrN (x := (((hi - lo) / 4 : Nat) : Int) * 2) (n := (hi - lo) / 4 * 2) (by omega) (by omega), wrN (x := (lo : Int) + (((hi - lo) / 4 * 2 : Nat) : Int)) (n := lo + (hi - lo) / 4 * 2) (by omega) (by omega), wrN (x := ((lo + (hi - lo) / 4 * 2 : Nat) : Int) - 1) (n := lo + (hi - lo) / 4 * 2 - 1) (by omega) (by omega)]
  unfold iQ
  obtain ⟨d', e, r⟩ := XS (lo := lo) (n := hi - lo) (m := m) ⟨m1, m2⟩ h8 (lo + (hi - lo) / 4 * 2 + 2 - (lo + (hi - lo) / 4 * 2 - 1)) (lo + (hi - lo) / 4 * 2 - 1) (IntKind.u64.wrap ((hi - lo : Nat) : Int)) d rfl (by omega) (by omega) (by omega) h2
  rw [e]
  have : lo + (hi - lo) = hi := by omega
  rw [this] at r
  exact ⟨d', rfl, r⟩

theorem UX {a b : Nat} {d : List Int} (s : Int) (ha : a < d.length) (hb : b < d.length) : ∃ (p q : Nat) (s' : Int), fG d (a : Int) (b : Int) s = some (((p : Int), (q : Int)), s') ∧ ((p = a ∧ q = b) ∨ (p = b ∧ q = a)) := by
  unfold fG
  rw [aO (asN hb), aO (asN ha), oN]
  simp only [Option.bind_some]
  cases decide (d.getD (Int.toNat (b : Int)) default < d.getD (Int.toNat (a : Int)) default)
  · exact ⟨a, b, _, rfl, .inl ⟨rfl, rfl⟩⟩
  · exact ⟨b, a, _, rfl, .inr ⟨rfl, rfl⟩⟩

theorem med {a b c : Nat} {d : List Int} (s : Int) (ha : a < d.length) (hb : b < d.length) (hc : c < d.length) : ∃ (p : Nat) (s' : Int), gY d (a : Int) (b : Int) (c : Int) s = some ((p : Int), s') ∧ (p = a ∨ p = b ∨ p = c) := by
  unfold gY
  obtain ⟨p1, q1, s1, e1, h1⟩ := UX s ha hb
  obtain ⟨p2, q2, s2, e2, h2⟩ := UX (a := q1) (b := c) (d := d) s1 (by omega) hc
  obtain ⟨p3, q3, s3, e3, h3⟩ := UX (a := p1) (b := p2) (d := d) s2 (by omega) (by omega)
  rw [e1]; simp only [Option.bind_some]
  rw [e2]; simp only [Option.bind_some]
  rw [e3]
  exact ⟨q3, s3, rfl, by omega⟩

theorem TH {a : Nat} {d : List Int} (s : Int) (h1 : 1 ≤ a) (ha : a + 1 < d.length) (hl : d.length < 2305843009213693951) : ∃ (p : Nat) (s' : Int), dK d (a : Int) s = some ((p : Int), s') ∧ a - 1 ≤ p ∧ p ≤ a + 1 := by
  unfold dK
  rw [wrN (x := (a : Int) - 1) (n := a - 1) (by omega) (by omega), wrN (x := (a : Int) + 1) (n := a + 1) (by omega) (by omega)]
  obtain ⟨p, s', e, h⟩ := med (a := a - 1) (b := a) (c := a + 1) (d := d) s (by omega) (by omega) (by omega)
  rw [e]
  exact ⟨p, s', rfl, by omega, by omega⟩

theorem VU (d : List Int) (s : Int) (j : Int) : ∃ h, eV d s j = some (j, h) := by
  unfold eV
  cases decide (s = 0) <;> cases decide (s = 12) <;> exact ⟨_, rfl⟩

theorem NT {lo hi : Nat} {d : List Int} (h8 : 12 < hi - lo) (h1 : hi ≤ d.length) (h2 : d.length < 2305843009213693951) : ∃ (p : Nat) (h : Int), gQ d (lo : Int) (hi : Int) = some ((p : Int), h) ∧ lo ≤ p ∧ p < hi := by
  unfold gQ
  have e1 : IntKind.i64.wrap ((hi : Int) - (lo : Int)) = ((hi - lo : Nat) : Int) := wrN (by omega) (by omega)
  have t4 : IntKind.i64.wrap (Int.tdiv ((hi - lo : Nat) : Int) 4) = (((hi - lo) / 4 : Nat) : Int) := by
    have : Int.tdiv ((hi - lo : Nat) : Int) 4 = (((hi - lo) / 4 : Nat) : Int) := by rw [Int.tdiv_eq_ediv_of_nonneg (by omega)]; omega
    rw [this]; exact wrN rfl (by omega)
  have d1 : decide ((8 : Int) ≤ ((hi - lo : Nat) : Int)) = true := by simp; omega
  have q1 : IntKind.i64.wrap ((lo : Int) + IntKind.i64.wrap ((((hi - lo) / 4 : Nat) : Int) * 1)) = ((lo + (hi - lo) / 4 : Nat) : Int) := by
    rw [wrN (x := (((hi - lo) / 4 : Nat) : Int) * 1) (n := (hi - lo) / 4) (by omega) (by omega)]; exact wrN (by omega) (by omega)
  have q2 : IntKind.i64.wrap ((lo : Int) + IntKind.i64.wrap ((((hi - lo) / 4 : Nat) : Int) * 2)) = ((lo + (hi - lo) / 4 * 2 : Nat) : Int) := by
    rw [wrN (x := (((hi - lo) / 4 : Nat) : Int) * 2) (n := (hi - lo) / 4 * 2) (by omega) (by omega)]; exact wrN (by omega) (by omega)
  have q3 : IntKind.i64.wrap ((lo : Int) + IntKind.i64.wrap ((((hi - lo) / 4 : Nat) : Int) * 3)) = ((lo + (hi - lo) / 4 * 3 : Nat) : Int) := by
    rw [wrN (x := (((hi - lo) / 4 : Nat) : Int) * 3) (n := (hi - lo) / 4 * 3) (by omega) (by omega)]; exact wrN (by omega) (by omega)
  rw [aO (by decide), aO (by decide), aO (by decide)]
  simp only [e1, t4, d1, q1, q2, q3, cond_true]
  by_cases h50 : (50 : Int) ≤ ((hi - lo : Nat) : Int)
  · simp only [h50, decide_true, cond_true]
    obtain ⟨p1, s1, f1, g1, g2⟩ := TH (a := lo + (hi - lo) / 4) (d := d) 0 (by omega) (by omega) h2
    obtain ⟨p2, s2, f2, g3, g4⟩ := TH (a := lo + (hi - lo) / 4 * 2) (d := d) s1 (by omega) (by omega) h2
    obtain ⟨p3, s3, f3, g5, g6⟩ := TH (a := lo + (hi - lo) / 4 * 3) (d := d) s2 (by omega) (by omega) h2
    obtain ⟨p4, s4, f4, g7⟩ := med (a := p1) (b := p2) (c := p3) (d := d) s3 (by omega) (by omega) (by omega)
    obtain ⟨h, f5⟩ := VU d s4 p4
    rw [f1]; simp only [Option.bind_some]
    rw [f2]; simp only [Option.bind_some]
    rw [f3]; simp only [Option.bind_some, eT]
    rw [f4]; simp only [Option.bind_some]
    exact ⟨p4, h, f5, by omega, by omega⟩
  · simp only [h50, decide_false, cond_false, eT]
    obtain ⟨p4, s4, f4, g7⟩ := med (a := lo + (hi - lo) / 4) (b := lo + (hi - lo) / 4 * 2) (c := lo + (hi - lo) / 4 * 3) (d := d) 0 (by omega) (by omega) (by omega)
    obtain ⟨h, f5⟩ := VU d s4 p4
    rw [f4]; simp only [Option.bind_some]
    exact ⟨p4, h, f5, by omega, by omega⟩

end Go.Abs
namespace Go.Abs
open Go
theorem FW {body : List Int × Int → Option ((List Int × Int) ⊕ (List Int × Int))} {d : List Int} {p : Nat → Prop} [DecidablePred p] {j : Nat}
    (hs : ∀ i, i ≤ j + 1 → body (d, (i : Int)) = if i ≤ j ∧ p i then some (.inl (d, ((i + 1 : Nat) : Int))) else some (.inr (d, (i : Int)))) :
    ∀ (n i : Nat), j + 1 - i = n → i ≤ j + 1 → ∃ i' : Nat, lp body (d, (i : Int)) = some (d, (i' : Int)) ∧ i ≤ i' ∧ i' ≤ j + 1 ∧ (∀ k, i ≤ k → k < i' → p k) ∧ (i' ≤ j → ¬ p i') := by
  intro n
  induction n with
  | zero =>
    intro i h1 h2
    have := hs i h2
    rw [if_neg (by omega)] at this
    exact ⟨i, cV this, Nat.le_refl _, h2, fun k a b => by omega, fun h => by omega⟩
  | succ n ih =>
    intro i h1 h2
    have h := hs i h2
    by_cases hp : p i
    · rw [if_pos ⟨by omega, hp⟩] at h
      obtain ⟨i', e, a1, a2, a3, a4⟩ := ih (i + 1) (by omega) (by omega)
      refine ⟨i', (gE h).trans e, by omega, a2, fun k b1 b2 => ?_, a4⟩
      by_cases hk : k = i
      · rw [hk]; exact hp
      · exact a3 k (by omega) b2
    · rw [if_neg fun hh => hp hh.2] at h
      exact ⟨i, cV h, Nat.le_refl _, h2, fun k a b => by omega, fun _ => hp⟩

theorem zS {body : List Int × Int → Option ((List Int × Int) ⊕ (List Int × Int))} {d : List Int} {p : Nat → Prop} [DecidablePred p] {i m : Nat} (hi : 1 ≤ i)
    (hs : ∀ j, j ≤ m → body (d, (j : Int)) = if i ≤ j ∧ p j then some (.inl (d, ((j - 1 : Nat) : Int))) else some (.inr (d, (j : Int)))) :
    ∀ (j : Nat), j ≤ m → i ≤ j + 1 → ∃ j' : Nat, lp body (d, (j : Int)) = some (d, (j' : Int)) ∧ i ≤ j' + 1 ∧ j' ≤ j ∧ (∀ k, j' < k → k ≤ j → p k) ∧ (i ≤ j' → ¬ p j') := by
  intro j
  induction j with
  | zero =>
    intro h1 h2
    have := hs 0 h1
    rw [if_neg (by omega)] at this
    exact ⟨0, cV this, by omega, Nat.le_refl _, fun k a b => by omega, fun h => by omega⟩
  | succ j ih =>
    intro h1 h2
    have h := hs (j + 1) h1
    by_cases hp : i ≤ j + 1 ∧ p (j + 1)
    · rw [if_pos hp] at h
      obtain ⟨j', e, a1, a2, a3, a4⟩ := ih (by omega) (by omega)
      refine ⟨j', (gE h).trans e, a1, by omega, fun k b1 b2 => ?_, a4⟩
      by_cases hk : k = j + 1
      · rw [hk]; exact hp.2
      · exact a3 k b1 (by omega)
    · rw [if_neg hp] at h
      exact ⟨j + 1, cV h, by omega, Nat.le_refl _, fun k a b => by omega, fun h1 h2 => hp ⟨h1, h2⟩⟩

theorem MT {α : Type} {i j u v : Nat} {d : List Int} {n : Bool} {x y : Option α} (hu : i ≤ j → u < d.length) (hv : i ≤ j → v < d.length) :
    (bF ((decide ((i : Int) ≤ (j : Int))) = true → 0 ≤ (u : Int) ∧ (u : Int) < ((List.length d : Nat) : Int)) <|
    bF ((decide ((i : Int) ≤ (j : Int))) = true → 0 ≤ (v : Int) ∧ (v : Int) < ((List.length d : Nat) : Int)) <|
    (dR (decide ((i : Int) ≤ (j : Int))) (cU (List.getD d (Int.toNat (u : Int)) default) (List.getD d (Int.toNat (v : Int)) default))).bind fun z =>
    cond ((decide ((i : Int) ≤ (j : Int))) && (Bool.xor n z)) x y) = if i ≤ j ∧ (Bool.xor n (decide (gN d u < gN d v))) = true then x else y := by
  by_cases h : i ≤ j
  · have hd : decide ((i : Int) ≤ (j : Int)) = true := by simp; omega
    rw [hd]
    rw [aO fun _ => asN (hu h), aO fun _ => asN (hv h)]
    simp only [dR, cond_true, oN, Option.bind_some, Bool.true_and, Int.toNat_natCast, h, true_and, gN]
    cases Bool.xor n (decide (d.getD u default < d.getD v default)) <;> simp
  · have hd : decide ((i : Int) ≤ (j : Int)) = false := by simp; omega
    rw [hd, aO (fun h => by cases h), aO (fun h => by cases h)]
    simp [dR, h]

theorem CV {α : Type} {i j u v : Nat} {d : List Int} {x y : Option α} (hu : i ≤ j → u < d.length) (hv : i ≤ j → v < d.length) :
    (bF ((decide ((i : Int) ≤ (j : Int))) = true → 0 ≤ (u : Int) ∧ (u : Int) < ((List.length d : Nat) : Int)) <|
    bF ((decide ((i : Int) ≤ (j : Int))) = true → 0 ≤ (v : Int) ∧ (v : Int) < ((List.length d : Nat) : Int)) <|
    (dR (decide ((i : Int) ≤ (j : Int))) (cU (List.getD d (Int.toNat (u : Int)) default) (List.getD d (Int.toNat (v : Int)) default))).bind fun z =>
    cond ((decide ((i : Int) ≤ (j : Int))) && z) x y) = if i ≤ j ∧ gN d u < gN d v then x else y := by
  have := MT (n := false) (x := x) (y := y) hu hv
  simp only [Bool.false_xor] at this
  exact this.trans (by simp)

theorem CZ {α : Type} {i j u v : Nat} {d : List Int} {x y : Option α} (hu : i ≤ j → u < d.length) (hv : i ≤ j → v < d.length) :
    (bF ((decide ((i : Int) ≤ (j : Int))) = true → 0 ≤ (u : Int) ∧ (u : Int) < ((List.length d : Nat) : Int)) <|
    bF ((decide ((i : Int) ≤ (j : Int))) = true → 0 ≤ (v : Int) ∧ (v : Int) < ((List.length d : Nat) : Int)) <|
    (dR (decide ((i : Int) ≤ (j : Int))) (cU (List.getD d (Int.toNat (u : Int)) default) (List.getD d (Int.toNat (v : Int)) default))).bind fun z =>
    cond ((decide ((i : Int) ≤ (j : Int))) && (!z)) x y) = if i ≤ j ∧ ¬ gN d u < gN d v then x else y := by
  have := MT (n := true) (x := x) (y := y) hu hv
  simp only [Bool.true_xor] at this
  exact this.trans (by simp)

theorem WO {a j : Nat} {d : List Int} (ha : a < d.length) (hj : j < d.length) (hl : d.length < 2305843009213693951) : ∀ i, i ≤ j + 1 → dU (a : Nat) (j : Nat) d (i : Nat) = if i ≤ j ∧ gN d i < gN d a then some (.inl (d, ((i + 1 : Nat) : Int))) else some (.inr (d, (i : Int))) := by
  intro i hi
  unfold dU
  rw [wrN (x := (i : Int) + 1) (n := i + 1) (by omega) (by omega)]
  exact CV (u := i) (v := a) (by omega) (by omega)

theorem TN {a j : Nat} {d : List Int} (ha : a < d.length) (hj : j < d.length) (hl : d.length < 2305843009213693951) : ∀ i, i ≤ j + 1 → eC (a : Nat) (j : Nat) d (i : Nat) = if i ≤ j ∧ gN d i < gN d a then some (.inl (d, ((i + 1 : Nat) : Int))) else some (.inr (d, (i : Int))) := by
  intro i hi
  unfold eC
  rw [wrN (x := (i : Int) + 1) (n := i + 1) (by omega) (by omega)]
  exact CV (u := i) (v := a) (by omega) (by omega)

theorem SD {a i m : Nat} {d : List Int} (hi : 1 ≤ i) (ha : a < d.length) (hm : m < d.length) (hl : d.length < 2305843009213693951) : ∀ j, j ≤ m → eH (a : Nat) (i : Nat) d (j : Nat) = if i ≤ j ∧ ¬ gN d j < gN d a then some (.inl (d, ((j - 1 : Nat) : Int))) else some (.inr (d, (j : Int))) := by
  intro j hj
  unfold eH
  refine (CZ (i := i) (j := j) (d := d) (α := (List Int × Int) ⊕ (List Int × Int)) (u := j) (v := a) (x := some (.inl (d, IntKind.i64.wrap ((j : Int) - 1)))) (y := some (.inr (d, (j : Int)))) (by omega) (by omega)).trans ?_
  by_cases h : i ≤ j ∧ ¬ gN d j < gN d a
  · rw [if_pos h, if_pos h, wrN (x := (j : Int) - 1) (n := j - 1) (by omega) (by omega)]
  · rw [if_neg h, if_neg h]

theorem PC {a i m : Nat} {d : List Int} (hi : 1 ≤ i) (ha : a < d.length) (hm : m < d.length) (hl : d.length < 2305843009213693951) : ∀ j, j ≤ m → eF (a : Nat) (i : Nat) d (j : Nat) = if i ≤ j ∧ ¬ gN d j < gN d a then some (.inl (d, ((j - 1 : Nat) : Int))) else some (.inr (d, (j : Int))) := by
  intro j hj
  unfold eF
  refine (CZ (i := i) (j := j) (d := d) (α := (List Int × Int) ⊕ (List Int × Int)) (u := j) (v := a) (x := some (.inl (d, IntKind.i64.wrap ((j : Int) - 1)))) (y := some (.inr (d, (j : Int)))) (by omega) (by omega)).trans ?_
  by_cases h : i ≤ j ∧ ¬ gN d j < gN d a
  · rw [if_pos h, if_pos h, wrN (x := (j : Int) - 1) (n := j - 1) (by omega) (by omega)]
  · rw [if_neg h, if_neg h]

theorem UD {a j : Nat} {d : List Int} (ha : a < d.length) (hj : j < d.length) (hl : d.length < 2305843009213693951) : ∀ i, i ≤ j + 1 → dF (a : Nat) (j : Nat) d (i : Nat) = if i ≤ j ∧ ¬ gN d a < gN d i then some (.inl (d, ((i + 1 : Nat) : Int))) else some (.inr (d, (i : Int))) := by
  intro i hi
  unfold dF
  rw [wrN (x := (i : Int) + 1) (n := i + 1) (by omega) (by omega)]
  exact CZ (u := a) (v := i) (by omega) (by omega)

theorem PI {a i m : Nat} {d : List Int} (hi : 1 ≤ i) (ha : a < d.length) (hm : m < d.length) (hl : d.length < 2305843009213693951) : ∀ j, j ≤ m → dG (a : Nat) (i : Nat) d (j : Nat) = if i ≤ j ∧ gN d a < gN d j then some (.inl (d, ((j - 1 : Nat) : Int))) else some (.inr (d, (j : Int))) := by
  intro j hj
  unfold dG
  refine (CV (i := i) (j := j) (d := d) (α := (List Int × Int) ⊕ (List Int × Int)) (u := a) (v := j) (x := some (.inl (d, IntKind.i64.wrap ((j : Int) - 1)))) (y := some (.inr (d, (j : Int)))) (by omega) (by omega)).trans ?_
  by_cases h : i ≤ j ∧ gN d a < gN d j
  · rw [if_pos h, if_pos h, wrN (x := (j : Int) - 1) (n := j - 1) (by omega) (by omega)]
  · rw [if_neg h, if_neg h]

structure uO (a b i j : Nat) (d : List Int) : Prop where
  hi : a < i
  hij : i ≤ j + 1
  hj : j < b
  lo : ∀ k, a < k → k < i → gN d k < gN d a
  up : ∀ k, j < k → k < b → gN d a ≤ gN d k

theorem uO.swap {a b i j : Nat} {d : List Int} (h : uO a b i j d) (hb : b ≤ d.length) (hij : i < j) (h1 : gN d a ≤ gN d i) (h2 : gN d j < gN d a) : uO a b (i + 1) (j - 1) (swp d i j) := by
  have := h.hi; have := h.hj
  have g := pQ (d := d) (i := i) (j := j) (by omega) (by omega)
  have ga : gN (swp d i j) a = gN d a := by rw [g, if_neg (by omega), if_neg (by omega)]
  refine ⟨by omega, by omega, by omega, fun k k1 k2 => ?_, fun k k1 k2 => ?_⟩
  · rw [ga, g, if_neg (by omega)]
    by_cases hk : k = i
    · rw [if_pos hk]; exact h2
    · rw [if_neg hk]; exact h.lo k k1 (by omega)
  · rw [ga, g]
    by_cases hk : k = j
    · rw [if_pos hk]; exact h1
    · rw [if_neg hk, if_neg (by omega)]; exact h.up k (by omega) k2

theorem EG {a b i j : Nat} {d : List Int} (h : uO a b i j d) (hb : b ≤ d.length) (hl : d.length < 2305843009213693951) : ∃ i' j' : Nat, uO a b i' j' d ∧ i ≤ i' ∧ j' ≤ j ∧ (j' < i' → j' + 1 = i') ∧ (i' ≤ j' → i' < j' ∧ gN d a ≤ gN d i' ∧ gN d j' < gN d a) ∧
    cY (a : Nat) d (i : Nat) (j : Nat) = eB d (a : Nat) (i' : Nat) (j' : Nat) ∧ fA d (a : Nat) (i : Nat) (j : Nat) = eE d (a : Nat) (i' : Nat) (j' : Nat) := by
  have h1 := h.hi; have h2 := h.hij; have h3 := h.hj
  obtain ⟨i', e1, a1, a2, a3, a4⟩ := FW (body := fun s => eC (a : Nat) (j : Nat) s.1 s.2) (d := d) (p := fun k => gN d k < gN d a) (j := j) (TN (a := a) (j := j) (d := d) (by omega) (by omega) hl) (j + 1 - i) i rfl h2
  obtain ⟨i2, e1', b1, b2, b3, b4⟩ := FW (body := fun s => dU (a : Nat) (j : Nat) s.1 s.2) (d := d) (p := fun k => gN d k < gN d a) (j := j) (WO (a := a) (j := j) (d := d) (by omega) (by omega) hl) (j + 1 - i) i rfl h2
  have hii : i2 = i' := by
    rcases Nat.lt_trichotomy i2 i' with hh | hh | hh
    · exact absurd (a3 i2 b1 hh) (b4 (by omega))
    · exact hh
    · exact absurd (b3 i' a1 hh) (a4 (by omega))
  subst hii
  obtain ⟨j', f1, c1, c2, c3, c4⟩ := zS (body := fun s => eF (a : Nat) (i2 : Nat) s.1 s.2) (d := d) (p := fun k => ¬ gN d k < gN d a) (i := i2) (m := j) (by omega) (PC (a := a) (i := i2) (m := j) (d := d) (by omega) (by omega) (by omega) hl) j (Nat.le_refl _) a2
  obtain ⟨j2, f1', g1, g2, g3, g4⟩ := zS (body := fun s => eH (a : Nat) (i2 : Nat) s.1 s.2) (d := d) (p := fun k => ¬ gN d k < gN d a) (i := i2) (m := j) (by omega) (SD (a := a) (i := i2) (m := j) (d := d) (by omega) (by omega) (by omega) hl) j (Nat.le_refl _) a2
  have hjj : j2 = j' := by
    rcases Nat.lt_trichotomy j2 j' with hh | hh | hh
    · exact absurd (g3 j' hh c2) (c4 (by omega))
    · exact hh
    · exact absurd (c3 j2 hh g2) (g4 (by omega))
  subst hjj
  have hend : i2 ≤ j2 → i2 < j2 ∧ gN d a ≤ gN d i2 ∧ gN d j2 < gN d a := fun hh => by
    have k1 : ¬ gN d i2 < gN d a := a4 (by omega)
    have k2 : gN d j2 < gN d a := Classical.byContradiction fun hn => c4 hh hn
    refine ⟨?_, by omega, k2⟩
    rcases Nat.lt_or_ge i2 j2 with h | h
    · exact h
    · have : i2 = j2 := by omega
      rw [this] at k1; exact absurd k2 k1
  refine ⟨i2, j2, ⟨by omega, by omega, by omega, fun k k1 k2 => ?_, fun k k1 k2 => ?_⟩, a1, c2, fun hh => by omega, hend, ?_, ?_⟩
  · by_cases hk : k < i
    · exact h.lo k k1 hk
    · exact a3 k (by omega) k2
  · by_cases hk : j < k
    · exact h.up k hk k2
    · have := c3 k k1 (by omega); omega
  · unfold cY jN
    rw [show lp (fun s : List Int × Int => eC (a : Nat) (j : Nat) s.1 s.2) (d, (i : Int)) = some (d, (i2 : Int)) from e1]
    simp only [Option.bind_some]
    unfold iB jJ
    rw [show lp (fun s : List Int × Int => eF (a : Nat) (i2 : Nat) s.1 s.2) (d, (j : Int)) = some (d, (j2 : Int)) from f1]
    rfl
  · unfold fA
    rw [show lp (fun s : List Int × Int => dU (a : Nat) (j : Nat) s.1 s.2) (d, (i : Int)) = some (d, (i2 : Int)) from e1']
    simp only [Option.bind_some]
    unfold hY jK
    rw [show lp (fun s : List Int × Int => eH (a : Nat) (i2 : Nat) s.1 s.2) (d, (j : Int)) = some (d, (j2 : Int)) from f1']
    rfl

theorem uO.rel {a b i j : Nat} {d : List Int} (h : uO a b i j d) (hb : b ≤ d.length) (hij : i ≤ j) : Rel (a + 1) b d (swp d i j) := by
  have := h.hi; have := h.hj
  exact Rel.swp (i := i) (j := j) (by omega) (by omega) (by omega) (by omega)

theorem VY {a b : Nat} : ∀ (n i j : Nat) (d : List Int), j + 1 - i = n → b ≤ d.length → d.length < 2305843009213693951 → uO a b i j d →
    ∃ (d' : List Int) (j' : Nat), lp (fun s : List Int × Int × Int => cY (a : Nat) s.1 s.2.1 s.2.2) (d, (i : Int), (j : Int)) = some (d', (j' : Int)) ∧ Rel (a + 1) b d d' ∧ uO a b (j' + 1) j' d' := by
  intro n
  induction n using Nat.strongRecOn with
  | ind n ih =>
    intro i j d h1 h2 h3 h
    obtain ⟨i', j', p1, p2, p3, p4, p5, p6, _⟩ := EG h h2 h3
    have q1 := p1.hi; have q2 := p1.hj; have q3 := p1.hij
    by_cases hlt : j' < i'
    · have hs : cY (a : Nat) d (i : Nat) (j : Nat) = some (.inr (d, (j' : Int))) := by
        rw [p6]
        unfold eB
        have : decide ((j' : Int) < (i' : Int)) = true := by simp; omega
        rw [this, cond_true]
      have := p4 hlt
      exact ⟨d, j', cV hs, Rel.refl .., by rw [this]; exact p1⟩
    · obtain ⟨k1, k2, k3⟩ := p5 (by omega)
      have hs : cY (a : Nat) d (i : Nat) (j : Nat) = some (.inl (swp d i' j', ((i' + 1 : Nat) : Int), ((j' - 1 : Nat) : Int))) := by
        rw [p6]
        unfold eB
        have : decide ((j' : Int) < (i' : Int)) = false := by simp; omega
        rw [this, cond_false]
        simp only [Int.toNat_natCast]
        rw [aO (asN (by omega)), aO (asN (by omega)), aO (asN (by omega)), aO (asN (by omega)), wrN (x := (i' : Int) + 1) (n := i' + 1) (by omega) (by omega), wrN (x := (j' : Int) - 1) (n := j' - 1) (by omega) (by omega)]
        rfl
      obtain ⟨d', j2, e, r, p⟩ := ih (j' - 1 + 1 - (i' + 1)) (by omega) (i' + 1) (j' - 1) (swp d i' j') rfl (by rw [fZ]; exact h2) (by rw [fZ]; exact h3) (p1.swap h2 k1 k2 k3)
      exact ⟨d', j2, (gE hs).trans e, (p1.rel h2 (by omega)).trans r, p⟩

theorem JM {a b j : Nat} {d : List Int} (h : uO a b (j + 1) j d) (hb : b ≤ d.length) : Rel a b d (swp d j a) ∧ (∀ k, a ≤ k → k < j → gN (swp d j a) k ≤ gN (swp d j a) j) ∧ (∀ k, j < k → k < b → gN (swp d j a) j ≤ gN (swp d j a) k) := by
  have h1 := h.hi; have h3 := h.hj
  have g := pQ (d := d) (i := j) (j := a) (by omega) (by omega)
  have gj : gN (swp d j a) j = gN d a := by
    rw [g]
    by_cases hh : j = a
    · rw [if_pos hh, hh]
    · rw [if_neg hh, if_pos rfl]
  refine ⟨Rel.swp (i := j) (j := a) (by omega) (by omega) (by omega) (by omega), fun k k1 k2 => ?_, fun k k1 k2 => ?_⟩
  · rw [gj, g]
    by_cases hk : k = a
    · rw [if_pos hk]
      have := h.lo j (by omega) (by omega); omega
    · rw [if_neg hk, if_neg (by omega)]
      have := h.lo k (by omega) (by omega); omega
  · rw [gj, g, if_neg (by omega), if_neg (by omega)]
    exact h.up k k1 k2

theorem KC {lo hi p : Nat} {d : List Int} (h0 : lo < hi) (hb : hi ≤ d.length) (hl : d.length < 2305843009213693951) (hp : lo ≤ p ∧ p < hi) :
    ∃ (m : Nat) (fl : Bool) (d' : List Int), fQ d (lo : Int) (hi : Int) (p : Int) = some (((m : Int), fl), d') ∧ lo ≤ m ∧ m < hi ∧ Rel lo hi d d' ∧ (∀ k, lo ≤ k → k < m → gN d' k ≤ gN d' m) ∧ (∀ k, m < k → k < hi → gN d' m ≤ gN d' k) := by
  unfold fQ
  rw [aO (asN (by omega)), aO (asN (by omega)), aO (asN (by omega)), aO (asN (by omega)), wrN (x := (lo : Int) + 1) (n := lo + 1) (by omega) (by omega), wrN (x := (hi : Int) - 1) (n := hi - 1) (by omega) (by omega)]
  simp only [Int.toNat_natCast]
  have r0 : Rel lo hi d (swp d lo p) := Rel.swp (i := lo) (j := p) (by omega) (by omega) (by omega) (by omega)
  have l0 : (swp d lo p).length = d.length := fZ ..
  have inv : uO lo hi (lo + 1) (hi - 1) (swp d lo p) := ⟨by omega, by omega, by omega, fun k k1 k2 => by omega, fun k k1 k2 => by omega⟩
  obtain ⟨i', j', p1, p2, p3, p4, p5, _, p6⟩ := EG inv (by rw [l0]; exact hb) (by rw [l0]; exact hl)
  have e0 : fA (List.set (List.set d lo (List.getD d p default)) p (List.getD d lo default)) (lo : Int) ((lo + 1 : Nat) : Int) ((hi - 1 : Nat) : Int) = eE (swp d lo p) (lo : Nat) (i' : Nat) (j' : Nat) := p6
  rw [e0]
  have q1 := p1.hi; have q2 := p1.hj; have q3 := p1.hij
  generalize hg : swp d lo p = d1 at *
  unfold eE
  by_cases hlt : j' < i'
  · have : decide ((j' : Int) < (i' : Int)) = true := by simp; omega
    rw [this, cond_true]
    simp only [Int.toNat_natCast]
    rw [aO (asN (by omega)), aO (asN (by omega)), aO (asN (by omega)), aO (asN (by omega))]
    have hp1 : uO lo hi (j' + 1) j' d1 := by rw [p4 hlt]; exact p1
    obtain ⟨r, a1, a2⟩ := JM hp1 (by omega)
    exact ⟨j', true, swp d1 j' lo, rfl, by omega, by omega, r0.trans r, a1, a2⟩
  · obtain ⟨k1, k2, k3⟩ := p5 (by omega)
    have : decide ((j' : Int) < (i' : Int)) = false := by simp; omega
    rw [this, cond_false]
    simp only [Int.toNat_natCast]
    rw [aO (asN (by omega)), aO (asN (by omega)), aO (asN (by omega)), aO (asN (by omega)), wrN (x := (i' : Int) + 1) (n := i' + 1) (by omega) (by omega), wrN (x := (j' : Int) - 1) (n := j' - 1) (by omega) (by omega)]
    obtain ⟨d2, j2, e, r, pp⟩ := VY (a := lo) (b := hi) (j' - 1 + 1 - (i' + 1)) (i' + 1) (j' - 1) (swp d1 i' j') rfl (by rw [fZ]; omega) (by rw [fZ]; omega) (p1.swap (by omega) k1 k2 k3)
    have w1 := pp.hi; have w2 := pp.hj
    have l2 : d2.length = d1.length := by rw [r.len, fZ]
    unfold jM
    rw [show lp (fun s : List Int × Int × Int => cY (lo : Int) s.1 s.2.1 s.2.2) ((List.set (List.set d1 i' (List.getD d1 j' default)) j' (List.getD d1 i' default)), ((i' + 1 : Nat) : Int), ((j' - 1 : Nat) : Int)) = some (d2, (j2 : Int)) from e]
    simp only [Option.bind_some, hU, Int.toNat_natCast]
    rw [aO (asN (by omega)), aO (asN (by omega)), aO (asN (by omega)), aO (asN (by omega))]
    obtain ⟨rr, a1, a2⟩ := JM pp (by omega)
    exact ⟨j2, false, swp d2 j2 lo, rfl, by omega, by omega, ((r0.trans ((p1.rel (by omega) (by omega)).mono (by omega) (Nat.le_refl _))).trans (r.mono (by omega) (Nat.le_refl _))).trans rr, a1, a2⟩

end Go.Abs
namespace Go.Abs
open Go
structure AE (a b i j : Nat) (d : List Int) : Prop where
  hi : a < i
  hij : i ≤ j + 1
  hj : j < b
  lo : ∀ k, a < k → k < i → gN d k ≤ gN d a
  up : ∀ k, j < k → k < b → gN d a < gN d k

theorem AE.swap {a b i j : Nat} {d : List Int} (h : AE a b i j d) (hb : b ≤ d.length) (hij : i < j) (h1 : gN d a < gN d i) (h2 : gN d j ≤ gN d a) : AE a b (i + 1) (j - 1) (swp d i j) := by
  have := h.hi; have := h.hj
  have g := pQ (d := d) (i := i) (j := j) (by omega) (by omega)
  have ga : gN (swp d i j) a = gN d a := by rw [g, if_neg (by omega), if_neg (by omega)]
  refine ⟨by omega, by omega, by omega, fun k k1 k2 => ?_, fun k k1 k2 => ?_⟩
  · rw [ga, g, if_neg (by omega)]
    by_cases hk : k = i
    · rw [if_pos hk]; exact h2
    · rw [if_neg hk]; exact h.lo k k1 (by omega)
  · rw [ga, g]
    by_cases hk : k = j
    · rw [if_pos hk]; exact h1
    · rw [if_neg hk, if_neg (by omega)]; exact h.up k (by omega) k2

theorem MI {a b i j : Nat} {d : List Int} (h : AE a b i j d) (hb : b ≤ d.length) (hl : d.length < 2305843009213693951) : ∃ i' j' : Nat, AE a b i' j' d ∧ i ≤ i' ∧ j' ≤ j ∧ (j' < i' → j' + 1 = i') ∧ (i' ≤ j' → i' < j' ∧ gN d a < gN d i' ∧ gN d j' ≤ gN d a) ∧
    cM (a : Nat) d (i : Nat) (j : Nat) = dH d (a : Nat) (i' : Nat) (j' : Nat) := by
  have h1 := h.hi; have h2 := h.hij; have h3 := h.hj
  obtain ⟨i', e1, a1, a2, a3, a4⟩ := FW (body := fun s => dF (a : Nat) (j : Nat) s.1 s.2) (d := d) (p := fun k => ¬ gN d a < gN d k) (j := j) (UD (a := a) (j := j) (d := d) (by omega) (by omega) hl) (j + 1 - i) i rfl h2
  obtain ⟨j', f1, c1, c2, c3, c4⟩ := zS (body := fun s => dG (a : Nat) (i' : Nat) s.1 s.2) (d := d) (p := fun k => gN d a < gN d k) (i := i') (m := j) (by omega) (PI (a := a) (i := i') (m := j) (d := d) (by omega) (by omega) (by omega) hl) j (Nat.le_refl _) a2
  have hend : i' ≤ j' → i' < j' ∧ gN d a < gN d i' ∧ gN d j' ≤ gN d a := fun hh => by
    have k1 : gN d a < gN d i' := Classical.byContradiction fun hn => a4 (by omega) hn
    have k2 : ¬ gN d a < gN d j' := c4 hh
    refine ⟨?_, k1, by omega⟩
    rcases Nat.lt_or_ge i' j' with h | h
    · exact h
    · have : i' = j' := by omega
      rw [this] at k1; exact absurd k1 k2
  refine ⟨i', j', ⟨by omega, by omega, by omega, fun k k1 k2 => ?_, fun k k1 k2 => ?_⟩, a1, c2, fun hh => by omega, hend, ?_⟩
  · by_cases hk : k < i
    · exact h.lo k k1 hk
    · have := a3 k (by omega) k2; omega
  · by_cases hk : j < k
    · exact h.up k hk k2
    · exact c3 k k1 (by omega)
  · unfold cM iI
    rw [show lp (fun s : List Int × Int => dF (a : Nat) (j : Nat) s.1 s.2) (d, (i : Int)) = some (d, (i' : Int)) from e1]
    simp only [Option.bind_some]
    unfold fE iH
    rw [show lp (fun s : List Int × Int => dG (a : Nat) (i' : Nat) s.1 s.2) (d, (j : Int)) = some (d, (j' : Int)) from f1]
    rfl

theorem TU {a b : Nat} : ∀ (n i j : Nat) (d : List Int), j + 1 - i = n → b ≤ d.length → d.length < 2305843009213693951 → AE a b i j d →
    ∃ (d' : List Int) (j' : Nat), lp (fun s : List Int × Int × Int => cM (a : Nat) s.1 s.2.1 s.2.2) (d, (i : Int), (j : Int)) = some (d', ((j' + 1 : Nat) : Int)) ∧ Rel (a + 1) b d d' ∧ AE a b (j' + 1) j' d' := by
  intro n
  induction n using Nat.strongRecOn with
  | ind n ih =>
    intro i j d h1 h2 h3 h
    obtain ⟨i', j', p1, p2, p3, p4, p5, p6⟩ := MI h h2 h3
    have q1 := p1.hi; have q2 := p1.hj; have q3 := p1.hij
    by_cases hlt : j' < i'
    · have hs : cM (a : Nat) d (i : Nat) (j : Nat) = some (.inr (d, (i' : Int))) := by
        rw [p6]
        unfold dH
        have : decide ((j' : Int) < (i' : Int)) = true := by simp; omega
        rw [this, cond_true]
      have := p4 hlt
      exact ⟨d, j', by rw [this]; exact cV hs, Rel.refl .., by rw [this]; exact p1⟩
    · obtain ⟨k1, k2, k3⟩ := p5 (by omega)
      have hs : cM (a : Nat) d (i : Nat) (j : Nat) = some (.inl (swp d i' j', ((i' + 1 : Nat) : Int), ((j' - 1 : Nat) : Int))) := by
        rw [p6]
        unfold dH
        have : decide ((j' : Int) < (i' : Int)) = false := by simp; omega
        rw [this, cond_false]
        simp only [Int.toNat_natCast]
        rw [aO (asN (by omega)), aO (asN (by omega)), aO (asN (by omega)), aO (asN (by omega)), wrN (x := (i' : Int) + 1) (n := i' + 1) (by omega) (by omega), wrN (x := (j' : Int) - 1) (n := j' - 1) (by omega) (by omega)]
        rfl
      obtain ⟨d', j2, e, r, p⟩ := ih (j' - 1 + 1 - (i' + 1)) (by omega) (i' + 1) (j' - 1) (swp d i' j') rfl (by rw [fZ]; exact h2) (by rw [fZ]; exact h3) (p1.swap h2 k1 k2 k3)
      exact ⟨d', j2, (gE hs).trans e, (Rel.swp (i := i') (j := j') (by omega) (by omega) (by omega) (by omega)).trans r, p⟩

theorem HW {lo hi p : Nat} {d : List Int} (h0 : lo < hi) (hb : hi ≤ d.length) (hl : d.length < 2305843009213693951) (hp : lo ≤ p ∧ p < hi) :
    ∃ (m : Nat) (d' : List Int), eJ d (lo : Int) (hi : Int) (p : Int) = some ((m : Int), d') ∧ lo < m ∧ m ≤ hi ∧ Rel lo hi d d' ∧ (∀ k, lo ≤ k → k < m → gN d' k ≤ gN d p) ∧ (∀ k, m ≤ k → k < hi → gN d p < gN d' k) := by
  unfold eJ
  rw [aO (asN (by omega)), aO (asN (by omega)), aO (asN (by omega)), aO (asN (by omega)), wrN (x := (lo : Int) + 1) (n := lo + 1) (by omega) (by omega), wrN (x := (hi : Int) - 1) (n := hi - 1) (by omega) (by omega)]
  simp only [Int.toNat_natCast]
  have r0 : Rel lo hi d (swp d lo p) := Rel.swp (i := lo) (j := p) (by omega) (by omega) (by omega) (by omega)
  have l0 : (swp d lo p).length = d.length := fZ ..
  have g := pQ (d := d) (i := lo) (j := p) (by omega) (by omega)
  have g0 : gN (swp d lo p) lo = gN d p := by
    rw [g]
    by_cases hh : lo = p
    · rw [if_pos hh, hh]
    · rw [if_neg hh, if_pos rfl]
  have inv : AE lo hi (lo + 1) (hi - 1) (swp d lo p) := ⟨by omega, by omega, by omega, fun k k1 k2 => by omega, fun k k1 k2 => by omega⟩
  obtain ⟨d', j', e, r, pp⟩ := TU (a := lo) (b := hi) (hi - 1 + 1 - (lo + 1)) (lo + 1) (hi - 1) (swp d lo p) rfl (by rw [l0]; exact hb) (by rw [l0]; exact hl) inv
  have w1 := pp.hi; have w2 := pp.hj
  have ga : gN d' lo = gN d p := by rw [r.out lo (by omega), g0]
  unfold iJ
  rw [show lp (fun s : List Int × Int × Int => cM (lo : Int) s.1 s.2.1 s.2.2) ((List.set (List.set d lo (List.getD d p default)) p (List.getD d lo default)), ((lo + 1 : Nat) : Int), ((hi - 1 : Nat) : Int)) = some (d', ((j' + 1 : Nat) : Int)) from e]
  refine ⟨j' + 1, d', rfl, by omega, by omega, r0.trans (r.mono (by omega) (Nat.le_refl _)), fun k k1 k2 => ?_, fun k k1 k2 => ?_⟩
  · rw [← ga]
    by_cases hk : k = lo
    · rw [hk]; exact Int.le_refl _
    · exact pp.lo k (by omega) k2
  · rw [← ga]; exact pp.up k (by omega) k2

theorem MU {lo i : Nat} {d : List Int} : ∀ (n i' : Nat), i' - i = n → nD lo i d → lo < i → (∀ k, i ≤ k → k < i' → gN d (k - 1) ≤ gN d k) → nD lo i' d
  | 0, i', h, hs, _, _ => fun p q p1 p2 p3 => hs p q p1 p2 (by omega)
  | n + 1, i', h, hs, hl, hk => by
    have ih := MU (d := d) n (i' - 1) (by omega) hs hl fun k k1 k2 => hk k k1 (by omega)
    intro p q p1 p2 p3
    by_cases hq : q = i' - 1
    · by_cases hp : p = q
      · rw [hp]; exact Int.le_refl _
      · have h1 := hk q (by omega) (by omega)
        have h2 := ih p (q - 1) p1 (by omega) (by omega)
        omega
    · exact ih p q p1 p2 (by omega)

theorem SY {lo hi : Nat} {d : List Int} (x : Int) (hb : hi ≤ d.length) (hl : d.length < 2305843009213693951) : ∀ (n i : Nat), hi - i = n → 1 ≤ i → i ≤ hi →
    ∃ i' : Nat, lp (fun s : List Int × Int => cJ (lo : Nat) (hi : Nat) x s.1 s.2) (d, (i : Int)) = some (d, (i' : Int)) ∧ i ≤ i' ∧ i' ≤ hi ∧ (∀ k, i ≤ k → k < i' → gN d (k - 1) ≤ gN d k) := by
  intro n
  induction n with
  | zero =>
    intro i h1 h2 h3
    refine ⟨i, cV ?_, Nat.le_refl _, h3, fun k k1 k2 => by omega⟩
    show cJ _ _ _ _ _ = _
    have : decide ((i : Int) < (hi : Int)) = false := by simp; omega
    simp only [cJ, this]
    rw [aO (fun h => by cases h), aO (fun h => by cases h)]
    rfl
  | succ n ih =>
    intro i h1 h2 h3
    have hd : decide ((i : Int) < (hi : Int)) = true := by simp; omega
    have hs : cJ (lo : Nat) (hi : Nat) x d (i : Nat) = if gN d i < gN d (i - 1) then some (.inr (d, (i : Int))) else some (.inl (d, ((i + 1 : Nat) : Int))) := by
      unfold cJ
      rw [hd, wrN (x := (i : Int) - 1) (n := i - 1) (by omega) (by omega), wrN (x := (i : Int) + 1) (n := i + 1) (by omega) (by omega), aO fun _ => asN (by omega), aO fun _ => asN (by omega)]
      simp only [dR, cond_true, oN, Option.bind_some, Bool.true_and, Int.toNat_natCast, gN]
      by_cases h : d.getD i default < d.getD (i - 1) default <;> simp [h]
    by_cases h : gN d i < gN d (i - 1)
    · rw [if_pos h] at hs
      exact ⟨i, cV hs, Nat.le_refl _, h3, fun k k1 k2 => by omega⟩
    · rw [if_neg h] at hs
      obtain ⟨i', e, a1, a2, a3⟩ := ih (i + 1) (by omega) (by omega) (by omega)
      refine ⟨i', (gE hs).trans e, by omega, a2, fun k k1 k2 => ?_⟩
      by_cases hk : k = i
      · rw [hk]; omega
      · exact a3 k (by omega) k2

theorem BJ {lo hi : Nat} {d d' : List Int} (r : Rel lo hi d d') (h : lo = 0 ∨ ∀ k, lo ≤ k → k < hi → gN d (lo - 1) ≤ gN d k) : lo = 0 ∨ ∀ k, lo ≤ k → k < hi → gN d' (lo - 1) ≤ gN d' k := by
  by_cases h0 : lo = 0
  · exact .inl h0
  · rcases h with h | h
    · exact .inl h
    · exact .inr fun k k1 k2 => by
        rw [r.out (lo - 1) (by omega)]
        exact r.all (p := fun v => gN d (lo - 1) ≤ v) h k k1 k2

theorem TS {lo hi i : Nat} (x y : Int) : ∀ (j : Nat) (d : List Int), lo ≤ j → j ≤ i → i < d.length → d.length < 2305843009213693951 → AG lo j i d → (lo = 0 ∨ ∀ k, lo ≤ k → k ≤ i → gN d (lo - 1) ≤ gN d k) →
    ∃ d', lp (fun s : List Int × Int => cA (lo : Nat) (hi : Nat) x y s.1 s.2) (d, (j : Int)) = some d' ∧ Rel lo (i + 1) d d' ∧ nD lo (i + 1) d' := by
  intro j
  induction j with
  | zero =>
    intro d h1 h2 h3 h4 h5 h6
    refine ⟨d, cV ?_, Rel.refl .., h5.done h1 (by omega)⟩
    show cA _ _ _ _ _ _ = _
    have : decide ((1 : Int) ≤ ((0 : Nat) : Int)) = false := by simp
    simp only [cA, this, cond_false]
  | succ j ih =>
    intro d h1 h2 h3 h4 h5 h6
    have hd : decide ((1 : Int) ≤ ((j + 1 : Nat) : Int)) = true := by simp; omega
    have hs : cA (lo : Nat) (hi : Nat) x y d ((j + 1 : Nat) : Int) = if gN d (j + 1) < gN d j then some (.inl (swp d (j + 1) j, (j : Int))) else some (.inr d) := by
      unfold cA
      rw [hd, cond_true, wrN (x := ((j + 1 : Nat) : Int) - 1) (n := j) (by omega) (by omega), aO (asN (by omega)), aO (asN (by omega))]
      simp only [oN, Option.bind_some, Int.toNat_natCast, gN]
      by_cases h : d.getD (j + 1) default < d.getD j default
      · simp only [h, decide_true, Bool.not_true, cond_false, if_true]
        rw [aO (asN (by omega)), aO (asN (by omega)), aO (asN (by omega)), aO (asN (by omega))]
        rfl
      · simp only [h, decide_false, Bool.not_false, cond_true, if_false]
    by_cases h : gN d (j + 1) < gN d j
    · rw [if_pos h] at hs
      have hlo : lo < j + 1 := by
        rcases h6 with h6 | h6
        · omega
        · rcases Nat.lt_or_ge lo (j + 1) with hh | hh
          · exact hh
          · have : lo = j + 1 := by omega
            have h7 := h6 (j + 1) (by omega) h2
            rw [this] at h7
            simp only [Nat.add_sub_cancel] at h7
            omega
      have r1 : Rel lo (i + 1) d (swp d (j + 1) j) := Rel.swp (i := j + 1) (j := j) (by omega) (by omega) (by omega) (by omega)
      obtain ⟨d', e, r, s⟩ := ih (swp d (j + 1) j) (by omega) (by omega) (by rw [fZ]; exact h3) (by rw [fZ]; exact h4) (h5.next hlo h2 h3 h) ((BJ r1 (h6.imp id fun h k a b => h k a (by omega))).imp id fun h k a b => h k a (by omega))
      exact ⟨d', (gE hs).trans e, r1.trans r, s⟩
    · rw [if_neg h] at hs
      exact ⟨d, cV hs, Rel.refl .., h5.done h1 fun hh => h hh.2⟩

theorem YI {lo hi i : Nat} (x y : Int) : ∀ (n j : Nat) (d : List Int), hi - j = n → i < j → hi ≤ d.length → d.length < 2305843009213693951 →
    ∃ d', lp (fun s : List Int × Int => cK (lo : Nat) (hi : Nat) x y s.1 s.2) (d, (j : Int)) = some d' ∧ Rel i hi d d' := by
  intro n
  induction n with
  | zero =>
    intro j d h1 h2 h3 h4
    refine ⟨d, cV ?_, Rel.refl ..⟩
    show cK _ _ _ _ _ _ = _
    have : decide ((j : Int) < (hi : Int)) = false := by simp; omega
    simp only [cK, this, cond_false]
  | succ n ih =>
    intro j d h1 h2 h3 h4
    have hd : decide ((j : Int) < (hi : Int)) = true := by simp; omega
    have hs : cK (lo : Nat) (hi : Nat) x y d (j : Nat) = if gN d j < gN d (j - 1) then some (.inl (swp d j (j - 1), ((j + 1 : Nat) : Int))) else some (.inr d) := by
      unfold cK
      rw [hd, cond_true, wrN (x := (j : Int) - 1) (n := j - 1) (by omega) (by omega), wrN (x := (j : Int) + 1) (n := j + 1) (by omega) (by omega), aO (asN (by omega)), aO (asN (by omega))]
      simp only [oN, Option.bind_some, Int.toNat_natCast, gN]
      by_cases h : d.getD j default < d.getD (j - 1) default
      · simp only [h, decide_true, Bool.not_true, cond_false, if_true]
        rw [aO (asN (by omega)), aO (asN (by omega)), aO (asN (by omega)), aO (asN (by omega))]
        rfl
      · simp only [h, decide_false, Bool.not_false, cond_true, if_false]
    by_cases h : gN d j < gN d (j - 1)
    · rw [if_pos h] at hs
      obtain ⟨d', e, r⟩ := ih (j + 1) (swp d j (j - 1)) (by omega) (by omega) (by rw [fZ]; exact h3) (by rw [fZ]; exact h4)
      exact ⟨d', (gE hs).trans e, (Rel.swp (i := j) (j := j - 1) (by omega) (by omega) (by omega) (by omega)).trans r⟩
    · rw [if_neg h] at hs
      exact ⟨d, cV hs, Rel.refl ..⟩

theorem RW {lo hi i : Nat} (x : Int) {d : List Int} (h1 : lo < i) (h2 : i < hi) (h3 : hi ≤ d.length) (h4 : d.length < 2305843009213693951) :
    ∃ d', cB d (lo : Nat) (hi : Nat) (i : Nat) x = some (.inl (d', (i : Int), IntKind.i64.wrap (x + 1))) ∧ Rel i hi d d' := by
  unfold cB
  rw [wrN (x := (hi : Int) - (i : Int)) (n := hi - i) (by omega) (by omega)]
  by_cases h : (2 : Int) ≤ ((hi - i : Nat) : Int)
  · simp only [h, decide_true, cond_true]
    unfold fJ
    rw [wrN (x := (i : Int) + 1) (n := i + 1) (by omega) (by omega)]
    obtain ⟨d', e, r⟩ := YI (lo := lo) (hi := hi) (i := i) (i : Int) x (hi - (i + 1)) (i + 1) d rfl (by omega) h3 h4
    rw [e]
    exact ⟨d', rfl, r⟩
  · simp only [h, decide_false, cond_false]
    exact ⟨d, rfl, Rel.refl ..⟩

theorem TZ {lo hi i : Nat} (x : Int) {d : List Int} (h1 : lo < i) (h2 : i ≤ hi) (h3 : hi ≤ d.length) (h4 : d.length < 2305843009213693951) (hs : nD lo i d) (hb : lo = 0 ∨ ∀ k, lo ≤ k → k < hi → gN d (lo - 1) ≤ gN d k) :
    (∃ (fl : Bool) (d' : List Int), cQ d (lo : Nat) (hi : Nat) (i : Nat) x = some (.inr (.inr (fl, d'))) ∧ Rel lo hi d d' ∧ (fl = true → nD lo hi d')) ∨
    (∃ (d' : List Int) (i' : Nat), cQ d (lo : Nat) (hi : Nat) (i : Nat) x = some (.inl (d', (i' : Int), IntKind.i64.wrap (x + 1))) ∧ Rel lo hi d d' ∧ lo < i' ∧ i' ≤ hi ∧ nD lo i' d') := by
  unfold cQ
  obtain ⟨i', e, a1, a2, a3⟩ := SY (lo := lo) (hi := hi) x h3 h4 (hi - i) i rfl (by omega) h2
  rw [e]
  simp only [Option.bind_some]
  have hs' := MU (i' - i) i' rfl hs h1 a3
  unfold dX
  by_cases hi' : i' = hi
  · have : decide ((i' : Int) = (hi : Int)) = true := by simp; omega
    rw [this, cond_true]
    left
    exact ⟨true, d, rfl, Rel.refl .., fun _ => hi' ▸ hs'⟩
  · have hne : decide ((i' : Int) = (hi : Int)) = false := by simp; omega
    rw [hne, cond_false, wrN (x := (hi : Int) - (lo : Int)) (n := hi - lo) (by omega) (by omega)]
    by_cases h50 : ((hi - lo : Nat) : Int) < 50
    · simp only [h50, decide_true, cond_true]
      left
      exact ⟨false, d, rfl, Rel.refl .., fun h => by cases h⟩
    · simp only [h50, decide_false, cond_false]
      rw [wrN (x := (i' : Int) - 1) (n := i' - 1) (by omega) (by omega), wrN (x := (i' : Int) - (lo : Int)) (n := i' - lo) (by omega) (by omega)]
      simp only [Int.toNat_natCast]
      rw [aO (asN (by omega)), aO (asN (by omega)), aO (asN (by omega)), aO (asN (by omega))]
      have r1 : Rel lo hi d (swp d i' (i' - 1)) := Rel.swp (i := i') (j := i' - 1) (by omega) (by omega) (by omega) (by omega)
      have l1 : (swp d i' (i' - 1)).length = d.length := fZ ..
      have g := pQ (d := d) (i := i') (j := i' - 1) (by omega) (by omega)
      right
      by_cases hge : (2 : Int) ≤ ((i' - lo : Nat) : Int)
      · simp only [hge, decide_true, cond_true]
        unfold fM
        have ins : AG lo (i' - 1) (i' - 1) (swp d i' (i' - 1)) := ⟨fun p q p1 p2 p3 p4 p5 => by
          rw [g, g, if_neg p4, if_neg p5, if_neg (by omega), if_neg (by omega)]
          exact hs' p q p1 p2 (by omega), fun q q1 q2 => by omega⟩
        obtain ⟨d2, e2, r2, s2⟩ := TS (lo := lo) (hi := hi) (i := i' - 1) (i' : Int) x (i' - 1) (swp d i' (i' - 1)) (by omega) (Nat.le_refl _) (by rw [l1]; omega) (by rw [l1]; exact h4) ins ((BJ r1 hb).imp id fun h k a b => h k a (by omega))
        have e2' : lp (fun s : List Int × Int => cA (lo : Int) (hi : Int) (i' : Int) x s.1 s.2) ((List.set (List.set d i' (List.getD d (i' - 1) default)) (i' - 1) (List.getD d i' default)), ((i' - 1 : Nat) : Int)) = some d2 := e2
        rw [e2']
        simp only [Option.bind_some]
        rw [show i' - 1 + 1 = i' by omega] at r2 s2
        have l2 : d2.length = d.length := by rw [r2.len, l1]
        obtain ⟨d3, e3, r3⟩ := RW (lo := lo) (hi := hi) (i := i') x (d := d2) (by omega) (by omega) (by omega) (by omega)
        rw [e3]
        refine ⟨d3, i', rfl, (r1.trans (r2.mono (Nat.le_refl _) (by omega))).trans (r3.mono (by omega) (Nat.le_refl _)), by omega, a2, fun p q p1 p2 p3 => ?_⟩
        rw [r3.out p (by omega), r3.out q (by omega)]
        exact s2 p q p1 p2 p3
      · simp only [hge, decide_false, cond_false]
        obtain ⟨d3, e3, r3⟩ := RW (lo := lo) (hi := hi) (i := i') x (d := swp d i' (i' - 1)) (by omega) (by omega) (by omega) (by omega)
        have e3' : cB (List.set (List.set d i' (List.getD d (i' - 1) default)) (i' - 1) (List.getD d i' default)) (lo : Int) (hi : Int) (i' : Int) x = _ := e3
        rw [e3']
        refine ⟨d3, i', rfl, r1.trans (r3.mono (by omega) (Nat.le_refl _)), by omega, a2, ?_⟩
        have : i' = lo + 1 := by omega
        rw [this]; exact DB lo d3

theorem YH {lo hi : Nat} : ∀ (n x i : Nat) (d : List Int), 5 - x = n → lo < i → i ≤ hi → hi ≤ d.length → d.length < 2305843009213693951 → nD lo i d → (lo = 0 ∨ ∀ k, lo ≤ k → k < hi → gN d (lo - 1) ≤ gN d k) → x ≤ 5 →
    ∃ (fl : Bool) (d' : List Int), (lp (fun s : List Int × Int × Int => bQ (lo : Nat) (hi : Nat) s.1 s.2.1 s.2.2) (d, (i : Int), (x : Int))).bind (Sum.elim (fun rr => dW rr) (fun rr => some (rr.1, rr.2))) = some (fl, d') ∧ Rel lo hi d d' ∧ (fl = true → nD lo hi d') := by
  intro n
  induction n with
  | zero =>
    intro x i d h1 h2 h3 h4 h5 h6 h7 h8
    have hs : bQ (lo : Nat) (hi : Nat) d (i : Nat) (x : Nat) = some (.inr (.inl d)) := by
      have : decide ((x : Int) < 5) = false := by simp; omega
      simp only [bQ, this, cond_false]
    rw [cV (show (fun s : List Int × Int × Int => bQ (lo : Nat) (hi : Nat) s.1 s.2.1 s.2.2) (d, (i : Int), (x : Int)) = _ from hs)]
    exact ⟨false, d, rfl, Rel.refl .., fun h => by cases h⟩
  | succ n ih =>
    intro x i d h1 h2 h3 h4 h5 h6 h7 h8
    have hl2 : bQ (lo : Nat) (hi : Nat) d (i : Nat) (x : Nat) = cQ d (lo : Nat) (hi : Nat) (i : Nat) (x : Nat) := by
      have : decide ((x : Int) < 5) = true := by simp; omega
      simp only [bQ, this, cond_true]
    rcases TZ (lo := lo) (hi := hi) (x : Int) h2 h3 h4 h5 h6 h7 with ⟨fl, d', e, r, s⟩ | ⟨d', i', e, r, k1, k2, s⟩
    · rw [cV (show (fun s : List Int × Int × Int => bQ (lo : Nat) (hi : Nat) s.1 s.2.1 s.2.2) (d, (i : Int), (x : Int)) = _ from hl2.trans e)]
      exact ⟨fl, d', rfl, r, s⟩
    · rw [wrN (x := (x : Int) + 1) (n := x + 1) (by omega) (by omega)] at e
      obtain ⟨fl, d2, e2, r2, s2⟩ := ih (x + 1) i' d' (by omega) k1 k2 (by rw [r.len]; exact h4) (by rw [r.len]; exact h5) s (BJ r h7) (by omega)
      rw [gE (show (fun s : List Int × Int × Int => bQ (lo : Nat) (hi : Nat) s.1 s.2.1 s.2.2) (d, (i : Int), (x : Int)) = _ from hl2.trans e)]
      exact ⟨fl, d2, e2, r.trans r2, s2⟩

theorem UM {lo hi : Nat} {d : List Int} (h0 : lo < hi) (h1 : hi ≤ d.length) (h2 : d.length < 2305843009213693951) (hb : lo = 0 ∨ ∀ k, lo ≤ k → k < hi → gN d (lo - 1) ≤ gN d k) :
    ∃ (fl : Bool) (d' : List Int), eG d (lo : Int) (hi : Int) = some (fl, d') ∧ Rel lo hi d d' ∧ (fl = true → nD lo hi d') := by
  unfold eG fK
  rw [wrN (x := (lo : Int) + 1) (n := lo + 1) (by omega) (by omega)]
  exact YH (lo := lo) (hi := hi) (5 - 0) 0 (lo + 1) d rfl (by omega) (by omega) h1 h2 (DB lo d) hb (by omega)

end Go.Abs
namespace Go.Abs
open Go
abbrev PS := List Int × Int × Int × Int × Bool × Bool

abbrev PR := List Int → Int → Int → Int → Option (List Int)

def uC (a b : Nat) (d d' : List Int) : Prop := Rel a b d d' ∧ nD a b d'

structure tS (a b lim : Nat) (d : List Int) : Prop where
  ab : a ≤ b
  bl : b ≤ d.length
  len : d.length < 2305843009213693951
  bnd : a = 0 ∨ ∀ k, a ≤ k → k < b → gN d (a - 1) ≤ gN d k
  lim : lim ≤ 100

def BH (rec : PR) (N : Nat) : Prop := ∀ (d : List Int) (a b lim : Nat), tS a b lim d → (rec d (a : Int) (b : Int) (lim : Int) = none ∧ N ≤ b - a) ∨ ∃ d', rec d (a : Int) (b : Int) (lim : Int) = some d' ∧ uC a b d d'

def yE (N a b : Nat) (d : List Int) (F : Option (PS ⊕ List Int)) : Prop :=
  (F = none ∧ N + 1 ≤ b - a) ∨ (∃ d', F = some (.inr d') ∧ uC a b d d') ∨
  ∃ (d' : List Int) (a' b' lim' : Nat) (wb wp : Bool), F = some (.inl (d', (a' : Int), (b' : Int), (lim' : Int), wb, wp)) ∧ b' - a' < b - a ∧ tS a' b' lim' d' ∧ ∀ d'', uC a' b' d' d'' → uC a b d d''

theorem uC.pre {a b : Nat} {d d1 d' : List Int} (r : Rel a b d d1) (h : uC a b d1 d') : uC a b d d' := ⟨r.trans h.1, h.2⟩

theorem yE.pre {N a b : Nat} {d d1 : List Int} {F : Option (PS ⊕ List Int)} (r : Rel a b d d1) (h : yE N a b d1 F) : yE N a b d F := by
  rcases h with h | ⟨d', h1, h2⟩ | ⟨d', a', b', lim', wb, wp, h1, h2, h3, h4⟩
  · exact .inl h
  · exact .inr (.inl ⟨d', h1, h2.pre r⟩)
  · exact .inr (.inr ⟨d', a', b', lim', wb, wp, h1, h2, h3, fun d'' hg => (h4 d'' hg).pre r⟩)

theorem tS.rel {a b lim : Nat} {d d1 : List Int} (h : tS a b lim d) (r : Rel a b d d1) : tS a b lim d1 :=
  ⟨h.ab, by rw [r.len]; exact h.bl, by rw [r.len]; exact h.len, BJ r h.bnd, h.lim⟩

theorem JB {a m b : Nat} {d : List Int} (hm : m < b) (h1 : ∀ k, a ≤ k → k < m → gN d k ≤ gN d m) (h2 : ∀ k, m < k → k < b → gN d m ≤ gN d k) (s1 : nD a m d) (s2 : nD (m + 1) b d) : nD a b d := by
  intro p q p1 p2 p3
  by_cases hq : q < m
  · exact s1 p q p1 p2 hq
  · by_cases hp : m < p
    · exact s2 p q hp p2 p3
    · have g1 : gN d p ≤ gN d m := by
        by_cases e : p = m
        · rw [e]; exact Int.le_refl _
        · exact h1 p p1 (by omega)
      have g2 : gN d m ≤ gN d q := by
        by_cases e : q = m
        · rw [e]; exact Int.le_refl _
        · exact h2 q (by omega) p3
      omega

theorem PY {rec : PR} {N a b lim p : Nat} {d : List Int} (hrec : BH rec N) (hv : tS a b lim d) (h12 : 12 < b - a) (hp : a ≤ p ∧ p < b) (wb wp : Bool) (len : Int) :
    yE N a b d (fW rec d (a : Int) (b : Int) (lim : Int) wb wp len (p : Int)) := by
  have hb := hv.bl; have hl := hv.len
  -- with all equal ones on the left
  have eqc : 0 < a → ¬ gN d (a - 1) < gN d p → yE N a b d ((eJ d (a : Int) (b : Int) (p : Int)).bind fun x20 => some (.inl (x20.2, x20.1, (b : Int), (lim : Int), wb, wp))) := by
    intro ha hn
    obtain ⟨m, d', e, m1, m2, r, q1, q2⟩ := HW (lo := a) (hi := b) (p := p) (d := d) (by omega) hb hl hp
    have hall : ∀ k, a ≤ k → k < b → gN d p ≤ gN d' k := by
      refine r.all (p := fun v => gN d p ≤ v) fun k k1 k2 => ?_
      rcases hv.bnd with h | h
      · omega
      · have := h k k1 k2; omega
    rw [e]
    refine .inr (.inr ⟨d', m, b, lim, wb, wp, rfl, by omega, ⟨m2, by rw [r.len]; exact hb, by rw [r.len]; exact hl, .inr fun k k1 k2 => ?_, hv.lim⟩, fun d'' hg => ⟨r.trans (hg.1.mono (by omega) (Nat.le_refl _)), fun x y x1 x2 x3 => ?_⟩⟩)
    · have := q1 (m - 1) (by omega) (by omega); have := q2 k k1 k2; omega
    · by_cases hx : m ≤ x
      · exact hg.2 x y hx x2 x3
      · rw [hg.1.out x (by omega)]
        have g1 := q1 x x1 (by omega)
        by_cases hy : y < m
        · rw [hg.1.out y (by omega)]
          have g2 := hall y (by omega) (by omega); omega
        · have g2 := hg.1.all (p := fun v => gN d p < v) q2 y (by omega) x3
          omega
  -- a partition, and the lesser part first
  have ptc : yE N a b d ((fQ d (a : Int) (b : Int) (p : Int)).bind fun x23 =>
      bF ((8 : Int) ≠ 0) <|
      cond (decide ((IntKind.i64.wrap (x23.1.1 - (a : Int))) < (IntKind.i64.wrap ((b : Int) - x23.1.1))))
      ((rec x23.2 (a : Int) x23.1.1 (lim : Int)).bind fun x28 =>
      some (.inl (x28, IntKind.i64.wrap (x23.1.1 + (1 : Int)), (b : Int), (lim : Int), decide ((IntKind.i64.wrap (Int.tdiv len (8 : Int))) ≤ (IntKind.i64.wrap (x23.1.1 - (a : Int)))), x23.1.2)))
      ((rec x23.2 (IntKind.i64.wrap (x23.1.1 + (1 : Int))) (b : Int) (lim : Int)).bind fun x31 =>
      some (.inl (x31, (a : Int), x23.1.1, (lim : Int), decide ((IntKind.i64.wrap (Int.tdiv len (8 : Int))) ≤ (IntKind.i64.wrap ((b : Int) - x23.1.1))), x23.1.2)))) := by
    obtain ⟨m, fl, d1, e, m1, m2, r, q1, q2⟩ := KC (lo := a) (hi := b) (p := p) (d := d) (by omega) hb hl hp
    have hv1 := hv.rel r
    rw [e]
    simp only [Option.bind_some]
    rw [aO (by decide), wrN (x := (m : Int) + 1) (n := m + 1) (by omega) (by omega)]
    have vL : tS a m lim d1 := ⟨m1, by have := hv1.bl; omega, hv1.len, hv1.bnd.imp id fun h k k1 k2 => h k k1 (by omega), hv.lim⟩
    have vR : tS (m + 1) b lim d1 := ⟨by omega, hv1.bl, hv1.len, .inr fun k k1 k2 => by simpa using q2 k (by omega) k2, hv.lim⟩
    cases decide ((IntKind.i64.wrap ((m : Int) - (a : Int))) < (IntKind.i64.wrap ((b : Int) - (m : Int)))) with
    | true =>
      rw [cond_true]
      rcases hrec d1 a m lim vL with ⟨hn, hN⟩ | ⟨d2, e2, g2⟩
      · rw [hn]; exact .inl ⟨rfl, by omega⟩
      · rw [e2]
        simp only [Option.bind_some]
        have top : gN d2 m = gN d1 m := g2.1.out m (by omega)
        refine .inr (.inr ⟨d2, m + 1, b, lim, _, _, rfl, by omega, ⟨by omega, by rw [g2.1.len]; exact hv1.bl, by rw [g2.1.len]; exact hv1.len, .inr fun k k1 k2 => ?_, hv.lim⟩, fun d3 hg => ⟨(r.trans (g2.1.mono (Nat.le_refl _) (by omega))).trans (hg.1.mono (by omega) (Nat.le_refl _)), ?_⟩⟩)
        · rw [show m + 1 - 1 = m by omega, top, g2.1.out k (by omega)]; exact q2 k (by omega) k2
        · have o3 : ∀ k, k ≤ m → gN d3 k = gN d2 k := fun k hk => hg.1.out k (by omega)
          refine JB m2 (fun k k1 k2 => ?_) (fun k k1 k2 => ?_) (fun x y x1 x2 x3 => by rw [o3 x (by omega), o3 y (by omega)]; exact g2.2 x y x1 x2 x3) hg.2
          · rw [o3 k (by omega), o3 m (by omega), top]
            exact g2.1.all (p := fun v => v ≤ gN d1 m) q1 k k1 k2
          · rw [o3 m (by omega), top]
            exact hg.1.all (p := fun v => gN d1 m ≤ v) (fun k k1 k2 => by rw [g2.1.out k (by omega)]; exact q2 k (by omega) k2) k (by omega) k2
    | false =>
      rw [cond_false]
      rcases hrec d1 (m + 1) b lim vR with ⟨hn, hN⟩ | ⟨d2, e2, g2⟩
      · rw [hn]; exact .inl ⟨rfl, by omega⟩
      · rw [e2]
        simp only [Option.bind_some]
        have low : ∀ k, k ≤ m → gN d2 k = gN d1 k := fun k hk => g2.1.out k (by omega)
        refine .inr (.inr ⟨d2, a, m, lim, _, _, rfl, by omega, ⟨m1, by rw [g2.1.len]; have := hv1.bl; omega, by rw [g2.1.len]; exact hv1.len, ?_, hv.lim⟩, fun d3 hg => ⟨(r.trans (g2.1.mono (by omega) (Nat.le_refl _))).trans (hg.1.mono (Nat.le_refl _) (by omega)), ?_⟩⟩)
        · rcases hv1.bnd with h | h
          · exact .inl h
          · exact .inr fun k k1 k2 => by rw [low (a - 1) (by omega), low k (by omega)]; exact h k k1 (by omega)
        · have o3 : ∀ k, m ≤ k → gN d3 k = gN d2 k := fun k hk => hg.1.out k (by omega)
          refine JB m2 (fun k k1 k2 => ?_) (fun k k1 k2 => ?_) hg.2 (fun x y x1 x2 x3 => by rw [o3 x (by omega), o3 y (by omega)]; exact g2.2 x y x1 x2 x3)
          · rw [o3 m (Nat.le_refl _), low m (Nat.le_refl _)]
            exact hg.1.all (p := fun v => v ≤ gN d1 m) (fun k k1 k2 => by rw [low k (by omega)]; exact q1 k k1 k2) k k1 k2
          · rw [o3 m (Nat.le_refl _), low m (Nat.le_refl _), o3 k (by omega)]
            exact g2.1.all (p := fun v => gN d1 m ≤ v) (fun k k1 k2 => q2 k (by omega) k2) k (by omega) k2
  unfold fW
  by_cases ha : 0 < a
  · have hd : decide ((0 : Int) < (a : Int)) = true := by simp; omega
    rw [hd, wrN (x := (a : Int) - 1) (n := a - 1) (by omega) (by omega), aO fun _ => asN (by omega), aO fun _ => asN (by omega)]
    simp only [dR, cond_true, oN, Option.bind_some, Bool.true_and, Int.toNat_natCast]
    by_cases hlt : gN d (a - 1) < gN d p
    · simp only [gN] at hlt
      simp only [hlt, decide_true, Bool.not_true, cond_false]
      exact ptc
    · have := eqc ha hlt
      simp only [gN] at hlt
      simp only [hlt, decide_false, Bool.not_false, cond_true]
      exact this
  · have hd : decide ((0 : Int) < (a : Int)) = false := by simp; omega
    rw [hd, aO (fun h => by cases h), aO (fun h => by cases h)]
    simp only [dR, cond_false, Option.bind_some, Bool.false_and]
    exact ptc

theorem QE {rec : PR} {N a b lim p : Nat} {d : List Int} (hrec : BH rec N) (hv : tS a b lim d) (h12 : 12 < b - a) (hp : a ≤ p ∧ p < b) (wb wp : Bool) (len hint : Int) :
    yE N a b d (fX rec d (a : Int) (b : Int) (lim : Int) wb wp len (p : Int) hint) := by
  unfold fX
  cases ((wb && wp) && (decide (hint = (1 : Int)))) with
  | false => exact PY hrec hv h12 hp wb wp len
  | true =>
    rw [cond_true]
    obtain ⟨fl, d', e, r, s⟩ := UM (lo := a) (hi := b) (d := d) (by omega) hv.bl hv.len hv.bnd
    rw [e]
    simp only [Option.bind_some]
    cases fl with
    | true => exact .inr (.inl ⟨d', rfl, r, s rfl⟩)
    | false => exact (PY hrec (hv.rel r) h12 hp wb wp len).pre r

theorem PT {rec : PR} {N a b lim : Nat} {d : List Int} (hrec : BH rec N) (hv : tS a b lim d) (h12 : 12 < b - a) (wb wp : Bool) (len : Int) :
    yE N a b d (fV rec d (a : Int) (b : Int) (lim : Int) wb wp len) := by
  have hb := hv.bl; have hl := hv.len
  unfold fV
  obtain ⟨p, h, e, p1, p2⟩ := NT (lo := a) (hi := b) (d := d) h12 hb hl
  rw [e]
  simp only [Option.bind_some]
  by_cases h2 : h = 2
  · simp only [h2, decide_true, cond_true]
    obtain ⟨d', e2, r⟩ := RE (lo := a) (hi := b) (d := d) (by omega) hb (by omega)
    rw [e2]
    simp only [Option.bind_some]
    rw [wrN (x := (b : Int) - 1) (n := b - 1) (by omega) (by omega), wrN (x := (p : Int) - (a : Int)) (n := p - a) (by omega) (by omega), wrN (x := ((b - 1 : Nat) : Int) - ((p - a : Nat) : Int)) (n := b - 1 - (p - a)) (by omega) (by omega)]
    exact (QE hrec (hv.rel r) h12 ⟨by omega, by omega⟩ wb wp len 1).pre r
  · simp only [h2, decide_false, cond_false]
    exact QE hrec hv h12 ⟨p1, p2⟩ wb wp len h

theorem YX {rec : PR} {N a b lim : Nat} {d : List Int} (hrec : BH rec N) (hv : tS a b lim d) (wb wp : Bool) :
    yE N a b d (dP rec d (a : Int) (b : Int) (lim : Int) wb wp) := by
  have hb := hv.bl; have hl := hv.len; have hab := hv.ab
  unfold dP
  rw [wrN (x := (b : Int) - (a : Int)) (n := b - a) (by omega) (by omega)]
  by_cases h12 : ((b - a : Nat) : Int) ≤ 12
  · simp only [h12, decide_true, cond_true]
    obtain ⟨d', e, r, s⟩ := UU (lo := a) (hi := b) (d := d) hb (by omega) hab
    rw [e]
    exact .inr (.inl ⟨d', rfl, r, s⟩)
  · simp only [h12, decide_false, cond_false]
    by_cases h0 : lim = 0
    · have : decide ((lim : Int) = 0) = true := by simp; exact h0
      rw [this, cond_true]
      obtain ⟨d', e, r, s⟩ := RO (lo := a) (hi := b) (d := d) (by omega) hb hl
      rw [e]
      exact .inr (.inl ⟨d', rfl, r, s⟩)
    · have : decide ((lim : Int) = 0) = false := by simp; exact h0
      rw [this, cond_false]
      cases wb with
      | true => exact PT hrec hv (by omega) true wp _
      | false =>
        simp only [Bool.not_false, cond_true]
        obtain ⟨d', e, r⟩ := SB (lo := a) (hi := b) (d := d) (by omega) hb hl
        rw [e]
        simp only [Option.bind_some]
        have hlim := hv.lim
        rw [wrN (x := (lim : Int) - 1) (n := lim - 1) (by omega) (by omega)]
        have hv' := hv.rel r
        exact (PT hrec ⟨hv'.ab, hv'.bl, hv'.len, hv'.bnd, by omega⟩ (by omega) false wp _).pre r

theorem WT {S R : Type} {body : S → Option (S ⊕ R)} {s : S} (h : body s = none) : lp body s = none := by
  cases e : lp body s with
  | none => rfl
  | some r =>
    obtain ⟨k, hk⟩ := BA.1 e
    cases k with
    | zero => simp [iter] at hk
    | succ k => simp [iter, h] at hk

theorem XR {rec : PR} {N : Nat} (hrec : BH rec N) : ∀ (n a b lim : Nat) (d : List Int) (wb wp : Bool), b - a = n → tS a b lim d →
    (lp (fun s : PS => dP rec s.1 s.2.1 s.2.2.1 s.2.2.2.1 s.2.2.2.2.1 s.2.2.2.2.2) (d, (a : Int), (b : Int), (lim : Int), wb, wp) = none ∧ N + 1 ≤ b - a) ∨
    ∃ d', lp (fun s : PS => dP rec s.1 s.2.1 s.2.2.1 s.2.2.2.1 s.2.2.2.2.1 s.2.2.2.2.2) (d, (a : Int), (b : Int), (lim : Int), wb, wp) = some d' ∧ uC a b d d' := by
  intro n
  induction n using Nat.strongRecOn with
  | ind n ih =>
    intro a b lim d wb wp hn hv
    rcases YX hrec hv wb wp with ⟨h1, h2⟩ | ⟨d', h1, h2⟩ | ⟨d', a', b', lim', wb', wp', h1, h2, h3, h4⟩
    · exact .inl ⟨WT h1, h2⟩
    · exact .inr ⟨d', cV h1, h2⟩
    · rw [gE (show (fun s : PS => dP rec s.1 s.2.1 s.2.2.1 s.2.2.2.1 s.2.2.2.2.1 s.2.2.2.2.2) (d, (a : Int), (b : Int), (lim : Int), wb, wp) = _ from h1)]
      rcases ih (b' - a') (by omega) a' b' lim' d' wb' wp' rfl h3 with ⟨g1, g2⟩ | ⟨d2, g1, g2⟩
      · exact .inl ⟨g1, by omega⟩
      · exact .inr ⟨d2, g1, h4 d2 g2⟩

theorem LL : ∀ k : Nat, BH (cW k) k
  | 0 => fun _ _ _ _ _ => .inl ⟨rfl, Nat.zero_le _⟩
  | k + 1 => fun d a b lim hv => by
    show (fD (cW k) d a b lim = none ∧ _) ∨ ∃ d', fD (cW k) d a b lim = some d' ∧ _
    unfold fD kE
    rcases XR (LL k) (b - a) a b lim d true true rfl hv with ⟨h1, h2⟩ | ⟨d', h1, h2⟩
    · rw [h1]; exact .inl ⟨rfl, h2⟩
    · rw [h1]; exact .inr ⟨d', rfl, h2⟩

theorem YU {a b lim : Nat} {d : List Int} (hv : tS a b lim d) : ∃ d', iX d (a : Int) (b : Int) (lim : Int) = some d' ∧ uC a b d d' := by
  unfold iX
  obtain ⟨d', e, g⟩ : ∃ d', cW (b - a + 1) d (a : Int) (b : Int) (lim : Int) = some d' ∧ uC a b d d' := by
    rcases LL (b - a + 1) d a b lim hv with ⟨_, h⟩ | h
    · omega
    · exact h
  cases hf : JS (fun k => cW k d (a : Int) (b : Int) (lim : Int)) with
  | none =>
    exfalso
    unfold JS at hf
    have hex : ∃ k r, cW k d (a : Int) (b : Int) (lim : Int) = some r := ⟨_, d', e⟩
    rw [dif_pos hex] at hf
    obtain ⟨r, hr⟩ := Classical.choose_spec hex
    have hf' : cW (Classical.choose hex) d (a : Int) (b : Int) (lim : Int) = none := hf
    rw [hr] at hf'
    cases hf'
  | some r =>
    obtain ⟨k, hk⟩ := GP hf
    rcases LL k d a b lim hv with ⟨h, _⟩ | ⟨d2, h, g2⟩
    · rw [h] at hk; cases hk
    · rw [h] at hk; cases hk; exact ⟨_, rfl, g2⟩

theorem XL {d : List Int} (hl : d.length < 2305843009213693951) : ∃ d', jS d = some d' ∧ d'.Perm d ∧ d'.Pairwise (· ≤ ·) := by
  unfold jS
  have hL : ∃ L : Nat, jO (IntKind.u64.wrap ((List.length d : Nat) : Int)) = some (L : Int) ∧ L ≤ 100 := by
    rw [zP (by omega) (by omega)]
    by_cases h0 : d.length = 0
    · rw [h0]; exact ⟨0, TL, by omega⟩
    · obtain ⟨k, e, h1, _⟩ := RL (x := ((List.length d : Nat) : Int)) (by omega) (by omega)
      exact ⟨k + 1, by rw [e]; rfl, by omega⟩
  obtain ⟨L, eL, hL⟩ := hL
  rw [eL]
  simp only [Option.bind_some]
  obtain ⟨d', e, g⟩ := YU (a := 0) (b := d.length) (lim := L) (d := d) ⟨Nat.zero_le _, Nat.le_refl _, hl, .inl rfl, hL⟩
  have e' : iX d 0 ((List.length d : Nat) : Int) (L : Int) = some d' := e
  rw [e']
  refine ⟨d', rfl, g.1.perm, List.pairwise_iff_getElem.2 fun i j hi hj hij => ?_⟩
  have := g.2 i j (Nat.zero_le _) (by omega) (by rw [g.1.len] at hj; exact hj)
  simp only [gN, List.getD_eq_getElem?_getD, List.getElem?_eq_getElem hi, List.getElem?_eq_getElem hj] at this
  exact this

theorem XD {d s : List Int} (hl : d.length < 2305843009213693951) (hp : s.Perm d) (hs : s.Pairwise (· ≤ ·)) : jS d = some s := by
  obtain ⟨d', e, p, q⟩ := XL hl
  rw [e]
  congr 1
  exact (p.trans hp.symm).eq_of_pairwise (le := (· ≤ ·)) (fun a b _ _ h1 h2 => Int.le_antisymm h1 h2) q hs

end Go.Abs
namespace Go.Abs
open Go
theorem EN {t : Int} : ∀ {ps : List Int}, t ∉ ps → (mA t ps).Perm (t :: ps)
  | [], _ => List.Perm.refl _
  | p :: r, h => by
    simp only [List.mem_cons, not_or] at h
    unfold mA
    rw [if_neg (fun e => h.1 e.symm)]
    split
    · exact List.Perm.refl _
    · exact (List.Perm.cons p (EN h.2)).trans (List.Perm.swap ..)

theorem IQ : ∀ {ps : List Int} {last : Int}, Inc last ps → ps.Pairwise (· < ·)
  | [], _, _ => List.Pairwise.nil
  | p :: r, last, h => List.Pairwise.cons (fun x hx => (h.2.above x hx).1) (IQ h.2)

theorem WH {ps : List Int} {last : Int} (h : Inc last ps) : ps.Pairwise (· ≤ ·) := (IQ h).imp fun h => by omega

end Go.Abs
namespace Go.Abs
open Go
def gF (hop n : Int) : Int := if n < 0 then 0 else (n / hop + 1) * hop

def sZ (size hop : Int) : Bool := (((decide ((1 : Int) ≤ size)) && (decide (size ≤ (1099511627776 : Int)))) && (decide ((1 : Int) ≤ hop))) && (decide (hop ≤ (1099511627776 : Int)))

def lT (t : Int) : Bool := (decide ((0 : Int) ≤ t)) && (decide (t ≤ (1125899906842624 : Int)))

def qD (size hop t : Int) : Int × Int :=
  if !sZ size hop then (0, 2) else if !lT t then (0, 13) else if t = 1125899906842624 then (1125899906842624, 0) else (min (gF hop (t - size)) 1125899906842624, 0)

theorem zU {size hop : Int} (h : sZ size hop = true) : 1 ≤ size ∧ size ≤ 1099511627776 ∧ 1 ≤ hop ∧ hop ≤ 1099511627776 := by
  simp only [sZ, Bool.and_eq_true, decide_eq_true_eq] at h; omega

theorem tD {t : Int} (h : lT t = true) : 0 ≤ t ∧ t ≤ 1125899906842624 := by
  simp only [lT, Bool.and_eq_true, decide_eq_true_eq] at h; omega

theorem VC {n hop : Int} (h : 0 ≤ n) : Int.tdiv n hop = n / hop := Int.tdiv_eq_ediv_of_nonneg h

theorem AV {n hop : Int} (hh : 1 ≤ hop) : n / hop * hop ≤ n ∧ n < (n / hop + 1) * hop := by
  have h1 := Int.mul_ediv_add_emod n hop
  have h2 := Int.emod_nonneg n (show hop ≠ 0 by omega)
  have h3 := Int.emod_lt_of_pos n (show 0 < hop by omega)
  rw [Int.add_mul, Int.mul_comm (n / hop) hop]
  omega

theorem oC {hop n : Int} (hh : 1 ≤ hop) : 0 ≤ gF hop n ∧ n < gF hop n ∧ (0 ≤ n → gF hop n ≤ n + hop) ∧ (n < 0 → gF hop n = 0) ∧ ∃ k : Int, gF hop n = k * hop := by
  unfold gF
  split
  · exact ⟨Int.le_refl _, by omega, by omega, fun _ => rfl, 0, by simp⟩
  · rename_i h
    have := AV (n := n) hh
    rw [Int.add_mul] at this ⊢
    refine ⟨by omega, by omega, by omega, by omega, n / hop + 1, by rw [Int.add_mul]⟩

theorem AA {hop n : Int} (h1 : 1 ≤ hop) (h2 : hop ≤ 1099511627776) (h3 : n ≤ 4503599627370496) : mZ hop n = some (gF hop n) := by
  unfold mZ
  by_cases hn : n < 0
  · simp [hn, gF]
  · have hn0 : 0 ≤ n := by omega
    have hm : Int.tmod n hop = n % hop := Int.tmod_eq_emod_of_nonneg hn0
    have hr : ¬ n % hop < 0 := by have := Int.emod_nonneg n (show hop ≠ 0 by omega); omega
    have hd0 : 0 ≤ n / hop := Int.ediv_nonneg hn0 (by omega)
    have hd1 : n / hop ≤ n := Int.ediv_le_self _ hn0
    have hf := AV (n := n) h1
    have e1 : wR (Int.tdiv n hop) = n / hop := by rw [VC hn0]; exact dY (by omega) (by omega)
    have e2 : IntKind.i64.wrap (n / hop + 1) = n / hop + 1 := dY (by omega) (by omega)
    have e3 : IntKind.i64.wrap ((n / hop + 1) * hop) = (n / hop + 1) * hop := dY (by omega) (by rw [Int.add_mul]; omega)
    have e0 : sH n hop = some (n / hop, n % hop, 0) := by
      unfold sH
      have hb : decide (hop < 1) = false := by simp; omega
      rw [hb, cond_false, aO (by omega), aO (by omega), hm, decide_eq_false hr, cond_false]
      unfold qX
      rw [show IntKind.i64.wrap (Int.tdiv n hop) = n / hop from e1]
    have hb : decide (n < (0 : Int)) = false := decide_eq_false hn
    rw [hb, cond_false, e0]
    simp only [Option.bind_some, e2, e3, gF, if_neg hn]

theorem FI {size hop t : Int} : oP size hop t = some (qD size hop t) := by
  unfold oP qD
  simp only [oM, lX, Option.bind_some]
  rw [show ((((decide ((1 : Int) ≤ size)) && (decide (size ≤ (1099511627776 : Int)))) && (decide ((1 : Int) ≤ hop))) && (decide (hop ≤ (1099511627776 : Int)))) = sZ size hop from rfl, show ((decide ((0 : Int) ≤ t)) && (decide (t ≤ (1125899906842624 : Int)))) = lT t from rfl]
  cases hm : sZ size hop with
  | false => rfl
  | true =>
    cases ht : lT t with
    | false => rfl
    | true =>
      have hm' := zU hm; have ht' := tD ht
      by_cases hf : t = 1125899906842624
      · simp [hf]
      · have e1 : IntKind.i64.wrap (t - size) = t - size := dY (by omega) (by omega)
        simp only [Bool.not_true, cond_false, decide_eq_false hf, Bool.false_eq_true, if_false, if_neg hf, e1]
        rw [AA hm'.2.2.1 hm'.2.2.2 (by omega)]
        simp only [Option.bind_some]
        have : (if (1125899906842624 : Int) < gF hop (t - size) then (1125899906842624 : Int) else gF hop (t - size)) = min (gF hop (t - size)) 1125899906842624 := by
          rw [Int.min_def]; split <;> split <;> omega
        rw [this]

def VL (hop : Int) : Nat → Int → List Int
  | 0, _ => []
  | n + 1, t => t :: VL hop n (t + hop)

def vT (hop t b : Int) : List Int := VL hop ((b - t + hop - 1) / hop).toNat t

theorem CY {hop t b : Int} (hh : 1 ≤ hop) (h : b ≤ t) : vT hop t b = [] := by
  unfold vT
  have : (b - t + hop - 1) / hop ≤ 0 := by
    have h1 : b - t + hop - 1 < 1 * hop := by omega
    have := Int.ediv_lt_of_lt_mul (by omega) h1
    omega
  rw [show ((b - t + hop - 1) / hop).toNat = 0 by omega]; rfl

theorem zJ {hop t b : Int} (hh : 1 ≤ hop) (h : t < b) : vT hop t b = t :: vT hop (t + hop) b := by
  unfold vT
  have h1 : (b - t + hop - 1) / hop = (b - (t + hop) + hop - 1) / hop + 1 := by
    rw [show b - t + hop - 1 = (b - (t + hop) + hop - 1) + hop by omega, Int.add_ediv_of_dvd_right (Int.dvd_refl hop), Int.ediv_self (by omega)]
  have h2 : 0 ≤ (b - (t + hop) + hop - 1) / hop := Int.ediv_nonneg (by omega) (by omega)
  rw [h1, show ((b - (t + hop) + hop - 1) / hop + 1).toNat = ((b - (t + hop) + hop - 1) / hop).toNat + 1 by omega]
  rfl

theorem CN {hop b : Int} (hh : 1 ≤ hop) {C : Int → Prop} (h0 : ∀ t, b ≤ t → C t) (h1 : ∀ t, t < b → C (t + hop) → C t) (t : Int) : C t := by
  generalize hn : (b - t).toNat = n
  induction n using Nat.strongRecOn generalizing t with
  | ind n ih =>
    by_cases h : t < b
    · exact h1 t h (ih (b - (t + hop)).toNat (by omega) _ rfl)
    · exact h0 t (by omega)

theorem IU {hop b x : Int} (hh : 1 ≤ hop) : ∀ t, x ∈ vT hop t b ↔ ∃ k : Nat, x = t + k * hop ∧ x < b := by
  refine CN hh (b := b) (fun t h => ?_) (fun t h ih => ?_)
  · rw [CY hh h]
    simp only [List.not_mem_nil, false_iff, not_exists, not_and]
    intro k hk
    have : 0 ≤ (k : Int) * hop := Int.mul_nonneg (by omega) (by omega)
    omega
  · rw [zJ hh h, List.mem_cons, ih]
    constructor
    · rintro (rfl | ⟨k, rfl, hk⟩)
      · exact ⟨0, by simp, h⟩
      · refine ⟨k + 1, ?_, hk⟩
        rw [Int.natCast_add, Int.add_mul]; omega
    · rintro ⟨k, hk1, hk2⟩
      match k with
      | 0 => left; simpa using hk1
      | k + 1 =>
        right
        refine ⟨k, ?_, hk2⟩
        rw [Int.natCast_add, Int.add_mul] at hk1; omega

theorem SA {hop b : Int} (hh : 1 ≤ hop) : ∀ t, (vT hop t b).Pairwise (· < ·) ∧ ∀ x ∈ vT hop t b, t ≤ x := by
  refine CN hh (b := b) (fun t h => ?_) (fun t h ih => ?_)
  · rw [CY hh h]; simp
  · rw [zJ hh h]
    refine ⟨List.pairwise_cons.2 ⟨fun x hx => ?_, ih.1⟩, fun x hx => ?_⟩
    · have := ih.2 x hx; omega
    · rcases List.mem_cons.1 hx with rfl | hx
      · exact Int.le_refl _
      · have := ih.2 x hx; omega

def qA {σ α : Type} (y : σ → α → Option (σ × Bool)) : List α → σ → Option σ
  | [], s => some s
  | a :: r, s => (y s a).bind fun x => if x.2 then qA y r x.1 else some x.1

def pI (size hop frm : Int) (s : bB) : Int := max (gF hop (s.From - size)) (gF hop (frm - 1))

def qT (front : Int) (s : bB) : Int := min (min s.To front) 1125899906842624

def lQ (size hop frm front : Int) (s : bB) : List Int := vT hop (pI size hop frm s) (qT front s)

structure OkH (size hop frm front : Int) : Prop where
  s0 : 1 ≤ size
  s1 : size ≤ 1099511627776
  h0 : 1 ≤ hop
  h1 : hop ≤ 1099511627776
  f0 : 0 ≤ frm
  f1 : frm ≤ 1125899906842624
  r0 : 0 ≤ front
  r1 : front ≤ 1125899906842624

theorem KF {σ : Type} {y : σ → Int → Option (σ × Bool)} {hop front : Int} {sp : bB} (hh : 1 ≤ hop) (hh1 : hop ≤ 1099511627776) : ∀ (t : Int) (s s' : σ), 0 ≤ t → qA y (vT hop t (qT front sp)) s = some s' → mN y s hop sp front t = some s' := by
  have main : ∀ (t : Int), ∀ (s s' : σ), 0 ≤ t → qA y (vT hop t (qT front sp)) s = some s' → ∃ x, lp (fun s => iR y hop sp front s.1 s.2) (s, t) = some x ∧ Sum.elim id id x = s' := by
    have hbe : (if (1125899906842624 : Int) < (if front < sp.To then front else sp.To) then (1125899906842624 : Int) else (if front < sp.To then front else sp.To)) = qT front sp := by
      unfold qT; simp only [Int.min_def]; split <;> split <;> split <;> split <;> omega
    refine CN hh (b := qT front sp) (fun t h s s' ht hi => ?_) (fun t h ih s s' ht hi => ?_)
    · rw [CY hh h] at hi
      simp only [qA, Option.some.injEq] at hi
      refine ⟨.inl s, cV ?_, hi⟩
      show iR _ _ _ _ _ _ = _
      simp only [iR, hbe]
      rw [decide_eq_false (by omega), cond_false]
    · rw [zJ hh h] at hi
      simp only [qA] at hi
      obtain ⟨x, hx, hi⟩ := aT hi
      have hb1 : qT front sp ≤ 1125899906842624 := Int.min_le_right _ _
      have hw : IntKind.i64.wrap (t + hop) = t + hop := dY (by omega) (by omega)
      have hb : (fun s : σ × Int => iR y hop sp front s.1 s.2) (s, t) = some (if x.2 then .inl (x.1, t + hop) else .inr (.inr x.1)) := by
        show iR _ _ _ _ _ _ = _
        simp only [iR, hbe]
        rw [decide_eq_true h, cond_true, hx]
        simp only [Option.bind_some, hw]
        cases x.2 <;> rfl
      cases hx2 : x.2
      · rw [hx2] at hb hi
        simp only [Bool.false_eq_true, if_false, Option.some.injEq] at hb hi
        exact ⟨_, cV hb, hi⟩
      · rw [hx2] at hb hi
        simp only [if_true] at hb hi
        obtain ⟨z, hz1, hz2⟩ := ih x.1 s' (by omega) hi
        exact ⟨z, by rw [gE hb]; exact hz1, hz2⟩
  intro t s s' ht hi
  obtain ⟨x, h1, h2⟩ := main t s s' ht hi
  unfold mN
  rw [h1]
  cases x <;> simpa using h2

theorem EK {σ : Type} {y : σ → Int → Option (σ × Bool)} {size hop frm front : Int} {sp : bB} (ok : OkH size hop frm front) (h1 : -1 ≤ sp.From) (h2 : sp.From ≤ 1125899906842624) {s s' : σ} (h : qA y (lQ size hop frm front sp) s = some s') :
    lM y hop sp size frm front s = some s' := by
  obtain ⟨a1, a2, a3, a4, a5, a6, a7, a8⟩ := ok
  unfold lM
  have w1 : IntKind.i64.wrap (sp.From - size) = sp.From - size := dY (by omega) (by omega)
  have w2 : IntKind.i64.wrap (frm - 1) = frm - 1 := dY (by omega) (by omega)
  rw [w1, w2, AA a3 a4 (by omega), AA a3 a4 (by omega)]
  simp only [Option.bind_some]
  have e : (if gF hop (frm - 1) > gF hop (sp.From - size) then gF hop (frm - 1) else gF hop (sp.From - size)) = pI size hop frm sp := by
    unfold pI; rw [Int.max_def]; split <;> split <;> omega
  rw [e]
  refine KF a3 a4 _ _ _ ?_ h
  have := (oC (n := sp.From - size) a3).1
  unfold pI; omega

end Go.Abs
namespace Go.Abs
open Go
def FB : aD := ⟨1, 1, ByteArray.empty⟩

end Go.Abs
namespace Go.Abs
open Go
theorem RX {d : List Int} (hd : d.Pairwise (· ≤ ·)) {i j : Nat} (hij : i ≤ j) (hj : j < d.length) : d.getD i 0 ≤ d.getD j 0 := by
  rw [List.getD_eq_getElem?_getD, List.getD_eq_getElem?_getD, List.getElem?_eq_getElem (by omega), List.getElem?_eq_getElem hj]
  rcases Nat.lt_or_ge i j with h | h
  · exact List.pairwise_iff_getElem.1 hd i j (by omega) hj h
  · have : i = j := by omega
    subst this; exact Int.le_refl _

theorem GN {d : List Int} {p : Nat} (hp : p < d.length) : d.take (p + 1) = d.take p ++ [d.getD p 0] := by
  rw [List.take_add_one, List.getElem?_eq_getElem hp, List.getD_eq_getElem?_getD, List.getElem?_eq_getElem hp]; rfl

theorem MB {d : List Int} (hd : d.Pairwise (· ≤ ·)) {p : Nat} (hp : p < d.length) {x : Int} (hx : x ∈ d.take (p + 1)) : x ≤ d.getD p 0 := by
  obtain ⟨i, hi⟩ := List.getElem?_of_mem hx
  rw [List.getElem?_take] at hi
  split at hi
  · rename_i hlt
    have := RX hd (i := i) (j := p) (by omega) hp
    rw [List.getD_eq_getElem?_getD (i := i), hi] at this
    exact this
  · cases hi

def Kept (d c : List Int) (p : Nat) : Prop := c.Pairwise (· < ·) ∧ ∀ x, x ∈ c ↔ x ∈ d.take p

theorem Kept.same {d c : List Int} {p : Nat} (h : Kept d c p) (h0 : 0 < p) (hp : p < d.length) (e : d.getD p 0 = d.getD (p - 1) 0) : Kept d c (p + 1) := by
  refine ⟨h.1, fun x => ?_⟩
  rw [h.2 x, GN hp, List.mem_append]
  constructor
  · exact .inl
  · rintro (h1 | h1)
    · exact h1
    · rw [List.mem_singleton.1 h1, e]
      have : p - 1 < p := by omega
      refine List.mem_of_getElem? (i := p - 1) ?_
      rw [List.getElem?_take, if_pos this, List.getD_eq_getElem?_getD, List.getElem?_eq_getElem (by omega)]; rfl

theorem Kept.more {d c : List Int} {p : Nat} (hd : d.Pairwise (· ≤ ·)) (h : Kept d c p) (h0 : 0 < p) (hp : p < d.length) (e : d.getD p 0 ≠ d.getD (p - 1) 0) : Kept d (c ++ [d.getD p 0]) (p + 1) := by
  have hle := RX hd (i := p - 1) (j := p) (by omega) hp
  refine ⟨?_, fun x => by rw [GN hp, List.mem_append, List.mem_append, h.2 x]⟩
  rw [List.pairwise_append]
  refine ⟨h.1, by simp, fun a ha b hb => ?_⟩
  rw [List.mem_singleton.1 hb]
  have ha' := (h.2 a).1 ha
  have : a ≤ d.getD (p - 1) 0 := by
    refine MB hd (by omega) ?_
    rwa [show p - 1 + 1 = p by omega]
  omega

end Go.Abs
namespace Go.Abs
open Go
def inW (a b : Int) (j : aF) : Bool := decide (0 < j.Net) && (decide (a ≤ j.At) && decide (j.At < b))

def uU (a b : Int) (f : List aF) : Int := ((f.filter (inW a b)).map aF.Net).sum

def oU (rs : List gW) : gW := rs.getD (rs.length - 1) default

theorem zQ (a b : Int) (j : aF) (f : List aF) : uU a b (j :: f) = (if inW a b j then j.Net else 0) + uU a b f := by
  unfold uU
  by_cases h : inW a b j <;> simp [h]

end Go.Abs
namespace Go.Abs
open Go
theorem w00 : IntKind.i64.wrap 0 = 0 := dY (by omega) (by omega)

def mM : Int → Int → List aF → List bB
  | n, fr, [] => if 0 < n then [⟨fr, 1125899906842624⟩] else []
  | n, fr, j :: r => if n + j.Net = 0 then ⟨if n = 0 then j.At else fr, j.At⟩ :: mM 0 (if n = 0 then j.At else fr) r else mM (n + j.Net) (if n = 0 then j.At else fr) r

def vJ (f : List aF) : List bB := mM 0 0 f

def uV (n : Int) (f : List aF) : Prop := n ≤ 1048576 * (2048 - f.length) ∧ -(1048576 * (2048 - f.length)) ≤ n ∧ f.length ≤ 1024

theorem uV.next {n : Int} {j : aF} {r : List aF} (h : uV n (j :: r)) (hj : j.Net ≤ 1048576 ∧ -1048576 ≤ j.Net) : uV (n + j.Net) r := by
  obtain ⟨h1, h2, h3⟩ := h
  simp only [List.length_cons] at h1 h2 h3
  exact ⟨by omega, by omega, by omega⟩

theorem uV.small {n : Int} {f : List aF} (h : uV n f) : n ≤ 4294967296 ∧ -4294967296 ≤ n := by
  obtain ⟨h1, h2, h3⟩ := h
  omega

theorem uV.zero {n : Int} {f : List aF} (h : uV n f) : uV 0 f := by
  obtain ⟨h1, h2, h3⟩ := h
  exact ⟨by omega, by omega, h3⟩

theorem KA {σ : Type} {y : σ → bB → Option (σ × Bool)} {f : List aF} (hl : f.length ≤ 1024) : ∀ (r : List aF) (k : Nat) (last n fr : Int) (s s' : σ), f.drop k = r → k ≤ f.length → oX last r → uV n r → qA y (mM n fr r) s = some s' →
    ∃ x, lp (fun s : σ × Int × Int × Int => fI y f ((f.length : Nat) : Int) s.1 s.2.1 s.2.2.1 s.2.2.2) (s, n, fr, (k : Int)) = some x ∧ Sum.elim (fun rr => lP y rr.1 rr.2.1 rr.2.2) (fun rr => some rr) x = some s' := by
  intro r
  induction r with
  | nil =>
    intro k last n fr s s' hd hk _ _ h
    have hk' : k = f.length := by
      have := congrArg List.length hd
      simp at this; omega
    subst hk'
    refine ⟨.inl (s, n, fr), cV ?_, ?_⟩
    · show fI _ _ _ _ _ _ _ = _
      simp only [fI, oK, cond_false]
    · simp only [Sum.elim_inl, lP]
      by_cases hn : 0 < n
      · simp only [mM, hn, if_true, qA] at h
        obtain ⟨x, hx, h⟩ := aT h
        rw [decide_eq_true hn, cond_true, hx]
        simp only [Option.bind_some]
        cases hx2 : x.2 <;> rw [hx2] at h <;> simpa using h
      · simp only [mM, hn, if_false, qA] at h
        rw [decide_eq_false hn, cond_false]; exact h
  | cons j r ih =>
    intro k last n fr s s' hd hk hr hroom h
    obtain ⟨hget, hd'⟩ := drop_cons hd
    have hlt : k < f.length := (List.getElem?_eq_some_iff.1 hget).1
    obtain ⟨d1, d2, d3, d4⟩ := idx hget (by omega)
    have hj := hr.1
    have hnx := hroom.next ⟨hj.2.2.2.1, hj.2.2.2.2⟩
    have hsm := hnx.small
    have hw : IntKind.i64.wrap (n + j.Net) = n + j.Net := dY (by omega) (by omega)
    -- what the body does
    have body : fI y f ((f.length : Nat) : Int) s n fr (k : Int) = kU y s n (if n = 0 then j.At else fr) j f ((f.length : Nat) : Int) (k : Int) := by
      simp only [fI, d1, cond_true, aO d2, d3]
      by_cases hn : n = 0 <;> simp [hn]
    by_cases hz : n + j.Net = 0
    · simp only [mM, hz, if_true, qA] at h
      obtain ⟨x, hx, h⟩ := aT h
      have hb : (fun s : σ × Int × Int × Int => fI y f ((f.length : Nat) : Int) s.1 s.2.1 s.2.2.1 s.2.2.2) (s, n, fr, (k : Int)) = some (if x.2 then .inl (x.1, 0, (if n = 0 then j.At else fr), ((k + 1 : Nat) : Int)) else .inr (.inr x.1)) := by
        show fI _ _ _ _ _ _ _ = _
        rw [body]
        simp only [kU, hw, d4, hz, w00, decide_true, zO, cond_true, hx, Option.bind_some, Bool.true_and]
        cases x.2 <;> rfl
      cases hx2 : x.2
      · rw [hx2] at hb h
        simp only [Bool.false_eq_true, if_false, Option.some.injEq] at hb h
        exact ⟨_, cV hb, by simpa using h⟩
      · rw [hx2] at hb h
        simp only [if_true] at hb h
        obtain ⟨z, hz1, hz2⟩ := ih (k + 1) j.At 0 _ x.1 s' hd' (by omega) hr.2 hnx.zero h
        exact ⟨z, by rw [gE hb]; exact hz1, hz2⟩
    · simp only [mM, hz, if_false] at h
      have hb : (fun s : σ × Int × Int × Int => fI y f ((f.length : Nat) : Int) s.1 s.2.1 s.2.2.1 s.2.2.2) (s, n, fr, (k : Int)) = some (.inl (s, n + j.Net, (if n = 0 then j.At else fr), ((k + 1 : Nat) : Int))) := by
        show fI _ _ _ _ _ _ _ = _
        rw [body]
        simp only [kU, hw, d4, decide_eq_false hz, zO, cond_false, Option.bind_some, Bool.false_and]
      obtain ⟨z, hz1, hz2⟩ := ih (k + 1) j.At (n + j.Net) _ s s' hd' (by omega) hr.2 hnx h
      exact ⟨z, by rw [gE hb]; exact hz1, hz2⟩

theorem PN {σ : Type} {y : σ → bB → Option (σ × Bool)} {f : List aF} (hf : jQ f = true) {s s' : σ} (h : qA y (vJ f) s = some s') : nO y f s = some s' := by
  obtain ⟨hl, hr⟩ := pU.1 hf
  obtain ⟨x, h1, h2⟩ := KA (y := y) hl f 0 (-2) 0 0 s s' rfl (by omega) hr ⟨by omega, by omega, hl⟩ h
  unfold nO oQ
  simp only [Int.natCast_zero] at h1
  rw [h1]
  exact h2

theorem xX {x : Int} (hx : x < 1125899906842624) : ∀ {f : List aF} {last n fr : Int}, oX last f → (∀ t, 0 ≤ n + val f t) → (n ≠ 0 → fr ≤ last) →
    ((∃ s ∈ mM n fr f, s.From ≤ x ∧ x < s.To) ↔ (n ≠ 0 → fr ≤ x) ∧ 0 < n + val f x)
  | [], last, n, fr, _, hn, _ => by
    have h0 := hn 0
    simp only [BB, Int.add_zero] at h0 ⊢
    unfold mM
    by_cases h : 0 < n
    · rw [if_pos h]
      simp only [List.mem_singleton]
      constructor
      · rintro ⟨s, rfl, h1, h2⟩; exact ⟨fun _ => h1, h⟩
      · rintro ⟨h1, _⟩; exact ⟨_, rfl, h1 (by omega), hx⟩
    · rw [if_neg h]
      simp [h]
  | j :: r, last, n, fr, hr, hn, hf => by
    have hj := hr.1
    have hab := hr.2.above
    have hv : ∀ t, t ≤ j.At → val r t = 0 := fun t ht => qP fun k hk => by have := (hab k hk).1; omega
    have hn0 : 0 ≤ n := by
      have := hn (j.At - 1)
      rw [gK, if_neg (by omega), hv _ (by omega)] at this; omega
    have hn1 : 0 ≤ n + j.Net := by
      have := hn j.At
      rw [gK, if_pos (by omega), hv _ (by omega)] at this; omega
    have hn2 : ∀ t, 0 ≤ (n + j.Net) + val r t := fun t => by
      by_cases ht : j.At ≤ t
      · have := hn t
        rw [gK, if_pos ht] at this; omega
      · rw [hv t (by omega)]; omega
    rw [gK]
    unfold mM
    by_cases hz : n + j.Net = 0
    · rw [if_pos hz]
      have ih := xX hx (f := r) (last := j.At) (n := 0) (fr := if n = 0 then j.At else fr) hr.2 (fun t => by have := hn2 t; omega) (by simp)
      have e : (∃ s ∈ (⟨if n = 0 then j.At else fr, j.At⟩ : bB) :: mM 0 (if n = 0 then j.At else fr) r, s.From ≤ x ∧ x < s.To) ↔ ((if n = 0 then j.At else fr) ≤ x ∧ x < j.At) ∨ (∃ s ∈ mM 0 (if n = 0 then j.At else fr) r, s.From ≤ x ∧ x < s.To) := by
        simp only [List.mem_cons, or_and_right, exists_or, exists_eq_left]
      rw [e, ih]
      by_cases hnz : n = 0
      · omega
      · rw [if_neg hnz]
        have hfl := hf hnz
        by_cases hxj : j.At ≤ x
        · rw [if_pos hxj]
          constructor
          · rintro (h | h)
            · omega
            · exact ⟨fun _ => by omega, by have := h.2; omega⟩
          · rintro ⟨_, h⟩; right; exact ⟨by simp, by omega⟩
        · rw [if_neg hxj, hv x (by omega)]
          constructor
          · rintro (h | h)
            · exact ⟨fun _ => h.1, by omega⟩
            · have := h.2; omega
          · rintro ⟨h, _⟩; left; exact ⟨h hnz, by omega⟩
    · rw [if_neg hz, xX hx (f := r) (last := j.At) (n := n + j.Net) (fr := if n = 0 then j.At else fr) hr.2 hn2 (fun _ => by
        split
        · exact Int.le_refl _
        · rename_i h; have := hf h; omega)]
      by_cases hnz : n = 0
      · simp only [hnz, if_true]
        by_cases hxj : j.At ≤ x
        · rw [if_pos hxj]
          constructor
          · rintro ⟨_, h⟩; exact ⟨by simp, by omega⟩
          · rintro ⟨_, h⟩; exact ⟨fun _ => hxj, by omega⟩
        · rw [if_neg hxj, hv x (by omega)]
          constructor
          · rintro ⟨h, _⟩; exact absurd (h (by omega)) hxj
          · rintro ⟨_, h⟩; omega
      · rw [if_neg hnz]
        by_cases hxj : j.At ≤ x
        · rw [if_pos hxj]
          constructor
          · rintro ⟨h, h2⟩; exact ⟨fun _ => h hz, by omega⟩
          · rintro ⟨h, h2⟩; exact ⟨fun _ => h hnz, by omega⟩
        · rw [if_neg hxj, hv x (by omega)]
          constructor
          · rintro ⟨h, h2⟩; exact ⟨fun _ => h hz, by omega⟩
          · rintro ⟨h, h2⟩; exact ⟨fun _ => h hnz, by omega⟩

theorem xA : ∀ {f : List aF} {last n fr : Int}, oX last f → -2 ≤ last → last < 1125899906842624 → (n ≠ 0 → fr ≤ last ∧ -1 ≤ fr) → ∀ s ∈ mM n fr f, -1 ≤ s.From ∧ s.From < s.To ∧ s.To ≤ 1125899906842624
  | [], last, n, fr, _, h1, h2, hf, s, hs => by
    unfold mM at hs
    split at hs
    · simp only [List.mem_singleton] at hs; subst hs
      have := hf (by omega)
      exact ⟨this.2, by show fr < 1125899906842624; omega, Int.le_refl _⟩
    · simp at hs
  | j :: r, last, n, fr, hr, h1, h2, hf, s, hs => by
    have hj := hr.1
    have key : (if n = 0 then j.At else fr) ≤ j.At ∧ -1 ≤ (if n = 0 then j.At else fr) := by
      split
      · omega
      · rename_i h; have := hf h; omega
    unfold mM at hs
    split at hs
    · rcases List.mem_cons.1 hs with rfl | hs
      · rename_i hz
        have hnz : n ≠ 0 := by omega
        have := hf hnz
        refine ⟨key.2, ?_, by show j.At ≤ _; omega⟩
        show (if n = 0 then j.At else fr) < j.At
        rw [if_neg hnz]; omega
      · exact xA hr.2 (by omega) (by omega) (by simp) s hs
    · exact xA hr.2 (by omega) (by omega) (fun _ => key) s hs

theorem DZ {f : List aF} (hf : jQ f = true) (hv : ∀ t, 0 ≤ val f t) {x : Int} (hx : x < 1125899906842624) : (∃ s ∈ vJ f, s.From ≤ x ∧ x < s.To) ↔ 0 < val f x := by
  rw [vJ, xX hx (pU.1 hf).2 (fun t => by have := hv t; omega) (by simp)]
  simp

theorem BV {f : List aF} (hf : jQ f = true) : ∀ s ∈ vJ f, -1 ≤ s.From ∧ s.From < s.To ∧ s.To ≤ 1125899906842624 :=
  xA (pU.1 hf).2 (by omega) (by omega) (by simp)

def lA (f : List aF) (a b : Int) : Int := val f a + uU (a + 1) b f

theorem DJ (a b : Int) : ∀ {f : List aF}, (∀ j ∈ f, j.Net ≤ 1048576) → 0 ≤ uU a b f ∧ uU a b f ≤ 1048576 * f.length
  | [], _ => by simp [uU]
  | j :: r, h => by
    have ih := DJ a b (f := r) fun k hk => h k (List.mem_cons_of_mem _ hk)
    have hj := h j (by simp)
    rw [zQ]
    simp only [List.length_cons, Int.natCast_add, Int.natCast_one, Int.mul_add, Int.mul_one]
    by_cases hi : inW a b j = true
    · rw [if_pos hi]
      simp only [inW, Bool.and_eq_true, decide_eq_true_eq] at hi
      omega
    · rw [if_neg hi]; omega

theorem DE {f : List aF} (hf : jQ f = true) {w : bB} : pG f w = some (lA f w.From w.To) := by
  obtain ⟨hl, hr⟩ := pU.1 hf
  have hb := hr.above
  have hv := GJ (f := f) w.From (show (0 : Int) ≤ 1048576 by omega) fun j hj => ⟨(hb j hj).2.2.2.1, (hb j hj).2.2.2.2⟩
  unfold pG
  rw [ZE, hf]
  simp only [if_true, Option.bind_some]
  unfold rG
  have key := FZ (l := f) (body := fun s : Int × Int => mV w f ((f.length : Nat) : Int) s.1 s.2) (fun (n : Int) i => (n, i)) (fun n r => n + uU (w.From + 1) w.To r)
    (fun n r => n ≤ 1048576 * (2048 - r.length) ∧ -(1048576 * (2048 - r.length)) ≤ n ∧ r.length ≤ 1024 ∧ ∀ j ∈ r, j.Net ≤ 1048576 ∧ -1048576 ≤ j.Net) (val f w.From) ?_ ?_ ⟨by omega, by omega, hl, fun j hj => ⟨(hb j hj).2.2.2.1, (hb j hj).2.2.2.2⟩⟩
  · rw [key]
    rfl
  · intro i j r n hj hI
    left
    obtain ⟨d1, d2, d3, d4⟩ := idx hj (by omega)
    obtain ⟨i1, i2, i3, i4⟩ := hI
    simp only [List.length_cons] at i1 i2 i3
    have i5 := i4 j (by simp)
    have hmx : (if (0 : Int) > j.Net then (0 : Int) else j.Net) = if 0 < j.Net then j.Net else 0 := by split <;> split <;> omega
    refine ⟨n + (if inW (w.From + 1) w.To j then j.Net else 0), ?_, ⟨?_, ?_, by omega, fun k hk => i4 k (List.mem_cons_of_mem _ hk)⟩, by rw [zQ]; omega⟩
    · have e1 : inW (w.From + 1) w.To j = (decide (0 < j.Net) && ((decide (w.From < j.At)) && (decide (j.At < w.To)))) := by
        unfold inW
        have : decide (w.From + 1 ≤ j.At) = decide (w.From < j.At) := decide_eq_decide.2 (by omega)
        rw [this]
      simp only [mV, d1, cond_true, aO d2, d3, hmx, e1]
      cases hw : (decide (w.From < j.At)) && (decide (j.At < w.To)) with
      | false =>
        simp only [cond_false, mT, d4, Bool.and_false, Bool.false_eq_true, if_false, Int.add_zero]
      | true =>
        have : IntKind.i64.wrap (n + (if 0 < j.Net then j.Net else 0)) = n + (if 0 < j.Net then j.Net else 0) := dY (by split <;> omega) (by split <;> omega)
        simp only [cond_true, mT, d4, this, Bool.and_true, decide_eq_true_eq]
    · split <;> omega
    · split <;> omega
  · intro n _
    simp only [mV, oK, cond_false]
    simp [uU]

theorem IY {a b x : Int} (h1 : a ≤ x) (h2 : x < b) : ∀ f : List aF, val f x ≤ val f a + uU (a + 1) b f
  | [] => by simp [uU, BB]
  | j :: r => by
    have ih := IY h1 h2 r
    rw [gK, gK, zQ]
    by_cases hi : inW (a + 1) b j = true
    · rw [if_pos hi]
      simp only [inW, Bool.and_eq_true, decide_eq_true_eq] at hi
      split <;> split <;> omega
    · rw [if_neg hi]
      have hi : ¬ (0 < j.Net ∧ a + 1 ≤ j.At ∧ j.At < b) := by simpa [inW] using hi
      split <;> split <;> omega

theorem KZ : ∀ {f : List aF} {last : Int}, oX last f → ∀ j ∈ f, val f j.At = val f (j.At - 1) + j.Net
  | [], _, _, j, hj => by simp at hj
  | k :: r, last, hr, j, hj => by
    have hab := hr.2.above
    rw [gK, gK]
    rcases List.mem_cons.1 hj with rfl | hj
    · rw [if_pos (by omega), if_neg (by omega), qP (f := r) fun q hq => (hab q hq).1, qP (f := r) fun q hq => by have := (hab q hq).1; omega]
      omega
    · have := (hab j hj).1
      rw [if_pos (by omega), if_pos (by omega), KZ hr.2 j hj]
      omega

theorem BS {f : List aF} (hf : jQ f = true) (hv : ∀ t, 0 ≤ val f t) {a b : Int} (hab : a < b) : 0 < lA f a b ↔ ∃ x, a ≤ x ∧ x < b ∧ 0 < val f x := by
  obtain ⟨hl, hr⟩ := pU.1 hf
  have hb := hr.above
  have hg := DJ (a + 1) b (f := f) fun j hj => (hb j hj).2.2.2.1
  unfold lA
  constructor
  · intro h
    by_cases h0 : 0 < val f a
    · exact ⟨a, Int.le_refl _, hab, h0⟩
    · have hva := hv a
      have hne : f.filter (inW (a + 1) b) ≠ [] := by
        intro hc
        unfold uU at h
        rw [hc] at h
        simp at h; omega
      obtain ⟨j, hj⟩ := List.exists_mem_of_ne_nil _ hne
      obtain ⟨hj1, hj2⟩ := List.mem_filter.1 hj
      simp only [inW, Bool.and_eq_true, decide_eq_true_eq] at hj2
      have := KZ hr j hj1
      have := hv (j.At - 1)
      exact ⟨j.At, by omega, by omega, by omega⟩
  · rintro ⟨x, h1, h2, h3⟩
    have := IY h1 h2 f
    omega

end Go.Abs
namespace Go.Abs
open Go
theorem GL {β : Type} {k : Int} {v : β} : ∀ {m : List (Int × β)}, k ∈ m.map (·.1) → (gC m k v).map (·.1) = m.map (·.1)
  | [], h => by simp at h
  | p :: m, h => by
    by_cases hp : p.1 = k
    · simp [gC, hp]
    · simp only [List.map_cons, List.mem_cons] at h
      rcases h with h | h
      · exact absurd h.symm hp
      · simp only [gC, hp, if_false, List.map_cons, GL h]

theorem HB {β : Type} {k : Int} {v : β} {m : List (Int × β)} (h : k ∉ m.map (·.1)) : (gC m k v).map (·.1) = m.map (·.1) ++ [k] := by
  rw [CJ fun p hp e => h (List.mem_map.2 ⟨p, hp, e⟩)]; simp

theorem AW {β : Type} {k : Int} : ∀ {m : List (Int × β)}, eY m k = none ↔ k ∉ m.map (·.1)
  | [] => by simp [eY]
  | p :: m => by
    rw [eY]
    by_cases hp : p.1 = k
    · simp [hp]
    · rw [if_neg hp, AW (m := m)]
      simp only [List.map_cons, List.mem_cons, not_or]
      exact ⟨fun h => ⟨fun e => hp e.symm, h⟩, fun h => h.2⟩

theorem zT {β : Type} {k x : Int} {v : β} : ∀ {m : List (Int × β)}, eY (gC m k v) x = if x = k then some v else eY m x
  | [] => by
    simp only [gC, eY]
    by_cases h : k = x
    · simp [h]
    · rw [if_neg h, if_neg (fun e => h e.symm)]
  | p :: m => by
    by_cases hp : p.1 = k
    · simp only [gC, if_pos hp, eY]
      by_cases h : k = x
      · simp [h]
      · rw [if_neg h, if_neg (fun e => h e.symm), if_neg (by rw [hp]; exact h)]
    · simp only [gC, if_neg hp, eY]
      by_cases h : p.1 = x
      · rw [if_pos h, if_pos h, if_neg (fun e => hp (h.trans e))]
      · rw [if_neg h, if_neg h, zT (m := m)]

theorem AP {S α : Type} {f : S → α → Option S} : ∀ {a b : List α} {s : S}, dA f s (a ++ b) = (dA f s a).bind fun s' => dA f s' b
  | [], b, s => rfl
  | x :: a, b, s => by
    simp only [List.cons_append, dA]
    cases f s x with
    | none => rfl
    | some s' => exact AP (a := a)

def mkW (size t : Int) : aQ := ⟨⟨t, min (t + size) 1125899906842624⟩, []⟩

def iL (g : List aD × List aF) (p : aQ) : aQ :=
  if p.Rows = [] ∨ (oU p.Rows).Row ≠ g.1 then ⟨p.Span, p.Rows ++ [⟨g.1, lA g.2 p.Span.From p.Span.To⟩]⟩ else p

def kP (size : Int) (g : List aD × List aF) (m : List (Int × aQ)) (t : Int) : Option (List (Int × aQ)) :=
  match eY m t with
  | none => if m.length = 1024 then none else some (gC m t (iL g (mkW size t)))
  | some p => some (gC m t (iL g p))

theorem tF (rs : List gW) (c : gW) : oU (rs ++ [c]) = c := by
  unfold oU
  have : (rs ++ [c]).length - 1 = rs.length := by simp
  rw [this, List.getD_eq_getElem?_getD, List.getElem?_append_right (Nat.le_refl _)]
  simp

theorem MN (g : List aD × List aF) (p : aQ) : (iL g p).Rows ≠ [] ∧ (oU (iL g p).Rows).Row = g.1 := by
  unfold iL
  split
  · exact ⟨by simp, by rw [tF]⟩
  · rename_i h
    simp only [not_or, Decidable.not_not] at h
    exact h

theorem KB (g : List aD × List aF) (p : aQ) : iL g (iL g p) = iL g p := by
  obtain ⟨h1, h2⟩ := MN g p
  have key : ∀ q : aQ, q.Rows ≠ [] → (oU q.Rows).Row = g.1 → iL g q = q := fun q a b => by
    unfold iL
    rw [if_neg (by simp [a, b])]
  exact key _ h1 h2

theorem AN {g : List aD × List aF} (hg : jQ g.2 = true) (hr : g.1.length ≤ 4398046510976) {p : aQ} (hp : p.Rows.length ≤ 1000000) (hlr : p.Rows ≠ [] → (oU p.Rows).Row.length ≤ 4398046510976) : mI g.1 g.2 p = some (iL g p) := by
  unfold mI
  have hlen : IntKind.i64.wrap (((List.length p.Rows : Nat) : Int) - 1) = ((List.length p.Rows : Nat) : Int) - 1 := dY (by omega) (by omega)
  simp only [wR, lN, gD, hlen]
  cases hR : p.Rows with
  | nil =>
    have h0 : decide ((((List.length ([] : List gW) : Nat) : Int) - 1) < 0) = true := by decide
    simp only [h0, Bool.not_true, Bool.true_or, cond_true, dR, cond_false, Option.bind_some]
    rw [aO (by simp)]
    rw [yC hr, Option.bind_some, DE hg, Option.bind_some, aO (by simp)]
    unfold iL
    rw [if_pos (.inl hR), hR]
  | cons c rs =>
    have hl2 : (c :: rs).length ≤ 1000000 := by rw [← hR]; exact hp
    have hge : 0 ≤ (((List.length (c :: rs) : Nat) : Int) - 1) ∧ (((List.length (c :: rs) : Nat) : Int) - 1) < ((List.length (c :: rs) : Nat) : Int) := by simp only [List.length_cons]; omega
    have h0 : decide ((((List.length (c :: rs) : Nat) : Int) - 1) < 0) = false := decide_eq_false (by omega)
    have hlast : List.getD (c :: rs) (Int.toNat (((List.length (c :: rs) : Nat) : Int) - 1)) default = oU (c :: rs) := by
      unfold oU
      congr 1
      omega
    rw [h0]
    simp only [Bool.not_false, Bool.false_or, dR, cond_true]
    rw [aO (fun _ => hge), hlast]
    have hsame : oW (oU (c :: rs)).Row g.1 = some (decide ((oU (c :: rs)).Row = g.1)) := by
      have := hlr (by rw [hR]; simp)
      rw [hR] at this
      exact ED _ _ (by omega)
    rw [hsame, Option.bind_some]
    unfold iL
    rw [hR]
    by_cases hq : (oU (c :: rs)).Row = g.1
    · rw [decide_eq_true hq, if_neg (by simp [hq])]; rfl
    · rw [decide_eq_false hq, if_pos (.inr hq)]
      simp only [Bool.not_false, cond_true]
      rw [yC hr, Option.bind_some, DE hg, Option.bind_some, aO (by simp only [List.length_cons, List.length_nil] at hl2 ⊢; omega)]

def CT (n : Nat) (r : List aD) (p : aQ) : Prop := (p.Rows.length ≤ n ∨ (p.Rows ≠ [] ∧ (oU p.Rows).Row = r ∧ p.Rows.length ≤ n + 1)) ∧ (p.Rows ≠ [] → (oU p.Rows).Row.length ≤ 4398046510976)

theorem CT.add {n : Nat} {g : List aD × List aF} (hr : g.1.length ≤ 4398046510976) {p : aQ} (h : CT n g.1 p) : CT n g.1 (iL g p) := by
  obtain ⟨h, h'⟩ := h
  unfold iL
  split
  · rename_i hc
    refine ⟨.inr ⟨by simp, by rw [tF], ?_⟩, fun _ => by rw [tF]; exact hr⟩
    rcases h with h | ⟨h1, h2, h3⟩
    · simp; omega
    · rcases hc with hc | hc
      · exact absurd hc h1
      · exact absurd h2 hc
  · exact ⟨h, h'⟩

def yW (n : Nat) (r : List aD) (m : List (Int × aQ)) : Prop := ∀ t p, eY m t = some p → CT n r p

theorem UT {size : Int} {g : List aD × List aF} (hg : jQ g.2 = true) (hr : g.1.length ≤ 4398046510976) {n : Nat} (hn : n ≤ 900000) {m : List (Int × aQ)} (hm : yW n g.1 m) {t : Int} (h0 : 0 ≤ t) (h1 : t < 1125899906842624) (hs0 : 0 ≤ size) (hs : size ≤ 1099511627776) (b : Bool) :
    (∀ m', kP size g m t = some m' → lH g.1 g.2 size b m t = some (.inl (b, m')) ∧ yW n g.1 m') ∧ (kP size g m t = none → lH g.1 g.2 size b m t = some (.inr (false, m))) := by
  unfold kP lH
  have small : ∀ p, CT n g.1 p → p.Rows.length ≤ 1000000 := fun p hp => by rcases hp.1 with h | ⟨_, _, h⟩ <;> omega
  have put : ∀ p, CT n g.1 p → yW n g.1 (gC m t (iL g p)) := by
    intro p hp t' p' h
    rw [zT] at h
    split at h
    · cases h; exact hp.add hr
    · exact hm t' p' h
  cases hgt : eY m t with
  | none =>
    simp only
    have hw : IntKind.i64.wrap (t + size) = t + size := dY (by omega) (by omega)
    have hmk : (aQ.mk (bB.mk t (if (1125899906842624 : Int) < (wR (t + size)) then (1125899906842624 : Int) else (wR (t + size)))) []) = mkW size t := by
      unfold mkW
      simp only [wR, hw]
      congr 2
      rw [Int.min_def]; split <;> split <;> omega
    have hf : CT n g.1 (mkW size t) := ⟨.inl (by simp [mkW]), fun h => absurd rfl h⟩
    rw [hmk, AN hg hr (small _ hf) hf.2]
    by_cases hl : m.length = 1024
    · have : decide ((lN m) = (1024 : Int)) = true := decide_eq_true (by simp only [lN]; omega)
      rw [this, if_pos hl]
      exact ⟨fun m' h => (by cases h), fun _ => rfl⟩
    · have : decide ((lN m) = (1024 : Int)) = false := decide_eq_false (by simp only [lN]; omega)
      rw [this, if_neg hl]
      refine ⟨fun m' h => ?_, fun h => (by cases h)⟩
      cases h
      exact ⟨rfl, put _ hf⟩
  | some p =>
    simp only
    have hf := hm t p hgt
    rw [AN hg hr (small _ hf) hf.2]
    refine ⟨fun m' h => ?_, fun h => (by cases h)⟩
    cases h
    exact ⟨rfl, put _ hf⟩

theorem KU {size : Int} {g : List aD × List aF} (hg : jQ g.2 = true) (hr : g.1.length ≤ 4398046510976) {n : Nat} (hn : n ≤ 900000) (hs0 : 0 ≤ size) (hs : size ≤ 1099511627776) (b : Bool) : ∀ (ts : List Int) (m : List (Int × aQ)), yW n g.1 m → (∀ t ∈ ts, 0 ≤ t ∧ t < 1125899906842624) →
    ∃ x, qA (fun st t => rnd (fun (q : Bool × List (Int × aQ)) => lH g.1 g.2 size q.1 q.2 t) st) ts (.inl (b, m)) = some x ∧ (∀ m', dA (kP size g) m ts = some m' → x = .inl (b, m') ∧ yW n g.1 m') ∧ (dA (kP size g) m ts = none → ∃ q, q.1 = false ∧ x = .inr q)
  | [], m, hm, _ => ⟨_, rfl, fun m' h => by simp only [dA, Option.some.injEq] at h; subst h; exact ⟨rfl, hm⟩, fun h => by simp [dA] at h⟩
  | t :: ts, m, hm, ht => by
    obtain ⟨h0, h1⟩ := ht t (by simp)
    obtain ⟨a1, a2⟩ := UT hg hr hn hm h0 h1 hs0 hs b
    simp only [qA, dA]
    cases hst : kP size g m t with
    | none =>
      have e := a2 hst
      refine ⟨.inr (false, m), ?_, fun m' h => (by simp at h), fun _ => ⟨_, rfl, rfl⟩⟩
      simp only [rnd, e, Option.bind_some, Sum.isLeft_inr, Bool.false_eq_true, if_false]
    | some m1 =>
      obtain ⟨e, hm1⟩ := a1 m1 hst
      obtain ⟨x, e1, e2, e3⟩ := KU hg hr hn hs0 hs b ts m1 hm1 fun t' h' => ht t' (by simp [h'])
      refine ⟨x, ?_, e2, e3⟩
      simp only [rnd, e, Option.bind_some, Sum.isLeft_inl, if_true]
      exact e1

def lZ (size hop frm front : Int) (f : List aF) : List Int := (vJ f).flatMap (lQ size hop frm front)

theorem zA {size hop frm front : Int} (ok : OkH size hop frm front) (s : bB) : ∀ t ∈ lQ size hop frm front s, 0 ≤ t ∧ t < 1125899906842624 := by
  intro t ht
  unfold lQ at ht
  have h1 := (SA (b := qT front s) ok.h0 (pI size hop frm s)).2 t ht
  obtain ⟨k, _, h2⟩ := (IU ok.h0 _).1 ht
  have h3 := (oC (n := s.From - size) ok.h0).1
  have h4 : gF hop (s.From - size) ≤ pI size hop frm s := Int.le_max_left _ _
  have h5 : qT front s ≤ 1125899906842624 := Int.min_le_right _ _
  omega

theorem IP {size hop frm front : Int} (ok : OkH size hop frm front) {g : List aD × List aF} (hg : jQ g.2 = true) (hr : g.1.length ≤ 4398046510976) {n : Nat} (hn : n ≤ 900000) (b : Bool) : ∀ (ss : List bB) (m : List (Int × aQ)), yW n g.1 m → (∀ s ∈ ss, -1 ≤ s.From ∧ s.From < s.To ∧ s.To ≤ 1125899906842624) →
    ∃ x, qA (fun st s => rnd (fun (q : Bool × List (Int × aQ)) => mG g.1 g.2 size hop frm front q.1 q.2 s) st) ss (.inl (b, m)) = some x ∧ (∀ m', dA (kP size g) m (ss.flatMap (lQ size hop frm front)) = some m' → x = .inl (b, m') ∧ yW n g.1 m') ∧ (dA (kP size g) m (ss.flatMap (lQ size hop frm front)) = none → ∃ q, q.1 = false ∧ x = .inr q)
  | [], m, hm, _ => ⟨_, rfl, fun m' h => by simp only [List.flatMap_nil, dA, Option.some.injEq] at h; subst h; exact ⟨rfl, hm⟩, fun h => by simp [dA] at h⟩
  | s :: ss, m, hm, hs => by
    have hsp := hs s (by simp)
    obtain ⟨x, e1, e2, e3⟩ := KU hg hr hn (size := size) (by have := ok.s0; omega) ok.s1 b (lQ size hop frm front s) m hm (zA ok s)
    have hl : mG g.1 g.2 size hop frm front b m s = (Sum.elim (fun q => some (.inl q)) (fun q => some (.inr q)) x : Option ((Bool × List (Int × aQ)) ⊕ (Bool × List (Int × aQ)))) := by
      unfold mG
      simp only [oG, Option.bind_some]
      rw [EK ok hsp.1 (by omega) e1]
      rfl
    simp only [qA, List.flatMap_cons, AP]
    cases hst : dA (kP size g) m (lQ size hop frm front s) with
    | none =>
      obtain ⟨q, hq, rfl⟩ := e3 hst
      refine ⟨.inr q, ?_, fun m' h => (by simp at h), fun _ => ⟨_, hq, rfl⟩⟩
      simp only [rnd, hl, Sum.elim_inr, Option.bind_some, Sum.isLeft_inr, Bool.false_eq_true, if_false]
    | some m1 =>
      obtain ⟨rfl, hm1⟩ := e2 m1 hst
      obtain ⟨x, f1, f2, f3⟩ := IP ok hg hr hn b ss m1 hm1 fun s' h' => hs s' (by simp [h'])
      refine ⟨x, ?_, f2, f3⟩
      simp only [rnd, hl, Sum.elim_inl, Option.bind_some, Sum.isLeft_inl, if_true]
      exact f1

theorem SH {size hop frm front : Int} (ok : OkH size hop frm front) {g : List aD × List aF} (hg : jQ g.2 = true) (hr : g.1.length ≤ 4398046510976) {n : Nat} (hn : n ≤ 900000) {m : List (Int × aQ)} (hm : yW n g.1 m) :
    ∃ x, qQ m g.1 g.2 size hop frm front = some x ∧ (∀ m', dA (kP size g) m (lZ size hop frm front g.2) = some m' → x = (true, m') ∧ yW n g.1 m') ∧ (dA (kP size g) m (lZ size hop frm front g.2) = none → x.1 = false) := by
  obtain ⟨x, e1, e2, e3⟩ := IP ok hg hr hn false (vJ g.2) m hm (BV hg)
  unfold qQ
  simp only [uA, Option.bind_some]
  rw [PN hg e1, Option.bind_some]
  unfold lZ
  cases hst : dA (kP size g) m ((vJ g.2).flatMap (lQ size hop frm front)) with
  | none =>
    obtain ⟨q, hq, rfl⟩ := e3 hst
    exact ⟨_, rfl, fun m' h => (by cases h), fun _ => hq⟩
  | some m1 =>
    obtain ⟨rfl, hm1⟩ := e2 m1 hst
    exact ⟨_, rfl, fun m' h => (by cases h; exact ⟨rfl, hm1⟩), fun h => (by cases h)⟩

end Go.Abs
namespace Go.Abs
open Go
theorem uS {hop n x : Int} (hh : 1 ≤ hop) (h0 : 0 ≤ x) (hx : ∃ k : Int, x = k * hop) (h : n < x) : gF hop n ≤ x := by
  unfold gF
  split
  · exact h0
  · obtain ⟨k, rfl⟩ := hx
    have hf := AV (n := n) hh
    have : n / hop < k := by
      rcases Int.lt_or_le (n / hop) k with h1 | h1
      · exact h1
      · have := Int.mul_le_mul_of_nonneg_right h1 (show 0 ≤ hop by omega)
        omega
    exact Int.mul_le_mul_of_nonneg_right (show n / hop + 1 ≤ k by omega) (by omega)

theorem LS {size hop frm : Int} {s : bB} (hh : 1 ≤ hop) (hf : 0 ≤ frm) : 0 ≤ pI size hop frm s ∧ (∃ k : Int, pI size hop frm s = k * hop) ∧ s.From - size < pI size hop frm s ∧ frm ≤ pI size hop frm s ∧
    ∀ x : Int, 0 ≤ x → (∃ k : Int, x = k * hop) → s.From - size < x → frm ≤ x → pI size hop frm s ≤ x := by
  obtain ⟨a1, a2, _, _, a5⟩ := oC (n := s.From - size) hh
  obtain ⟨b1, b2, _, _, b5⟩ := oC (n := frm - 1) hh
  unfold pI
  refine ⟨by omega, ?_, by omega, by omega, fun x x0 xk x1 x2 => ?_⟩
  · rcases Int.le_total (gF hop (s.From - size)) (gF hop (frm - 1)) with h | h
    · rw [Int.max_eq_right h]; exact b5
    · rw [Int.max_eq_left h]; exact a5
  · have c1 := uS hh x0 xk x1
    have c2 := uS hh x0 xk (show frm - 1 < x by omega)
    omega

theorem BY {size hop frm front : Int} (ok : OkH size hop frm front) {s : bB} {x : Int} : x ∈ lQ size hop frm front s ↔ 0 ≤ x ∧ (∃ k : Int, x = k * hop) ∧ frm ≤ x ∧ x < front ∧ x < 1125899906842624 ∧ s.From - size < x ∧ x < s.To := by
  obtain ⟨f1, ⟨q, f2⟩, f3, f4, f5⟩ := LS (size := size) (s := s) ok.h0 ok.f0
  have hb : x < qT front s ↔ x < s.To ∧ x < front ∧ x < 1125899906842624 := by unfold qT; omega
  unfold lQ
  rw [IU ok.h0]
  constructor
  · rintro ⟨k, h1, h2⟩
    have h3 := hb.1 h2
    have h4 : 0 ≤ (k : Int) * hop := Int.mul_nonneg (by omega) (by have := ok.h0; omega)
    refine ⟨by omega, ⟨q + k, ?_⟩, by omega, h3.2.1, h3.2.2, by omega, h3.1⟩
    rw [Int.add_mul]; omega
  · rintro ⟨h1, ⟨k, hk⟩, h2, h3, h4, h5, h6⟩
    have h7 := f5 x h1 ⟨k, hk⟩ h5 h2
    have h8 : q ≤ k := by
      rcases Int.lt_or_le k q with hlt | hle
      · have u := Int.mul_le_mul_of_nonneg_right (show k + 1 ≤ q by omega) (show 0 ≤ hop by have := ok.h0; omega)
        have u0 := ok.h0
        rw [Int.add_mul] at u
        omega
      · exact hle
    refine ⟨(k - q).toNat, ?_, hb.2 ⟨h6, h3, h4⟩⟩
    rw [Int.toNat_of_nonneg (by omega), Int.sub_mul]; omega

def CU (size hop : Int) (s : bB) (frm front : Int) : List Int × Int :=
  if !sZ size hop then ([], 2) else if !(lT frm && lT front) then ([], 13) else if s.From < -1 ∨ s.To ≤ s.From ∨ 1125899906842624 < s.To then ([], 14)
  else if 1024 < (lQ size hop frm front s).length then ([], 7) else (lQ size hop frm front s, 0)

theorem VG {size hop frm front : Int} (hm : sZ size hop = true) (h1 : lT frm = true) (h2 : lT front = true) : OkH size hop frm front := by
  have a := zU hm; have b := tD h1; have c := tD h2
  exact ⟨a.1, a.2.1, a.2.2.1, a.2.2.2, b.1, b.2, c.1, c.2⟩

theorem GI {c0 : Int} {c1 : bB} {c2 c3 c4 : Int} (a : List Int) (b : Int) : ∀ (ts out : List Int), out.length ≤ 1024 →
    ∃ x, qA (fun st t => rnd (fun (s : (List Int) × Int × List Int) => kR c0 c1 c2 c3 c4 s.1 s.2.1 s.2.2 t) st) ts (.inl (a, b, out)) = some x ∧ (if 1024 < out.length + ts.length then ∃ q, x = .inr ([], 7, q) else x = .inl (a, b, out ++ ts))
  | [], out, ho => ⟨_, rfl, by rw [if_neg (by simp; omega)]; simp⟩
  | t :: ts, out, ho => by
    by_cases hl : out.length = 1024
    · refine ⟨.inr ([], 7, out), ?_, by rw [if_pos (by simp only [List.length_cons]; omega)]; exact ⟨_, rfl⟩⟩
      have hb : kR c0 c1 c2 c3 c4 a b out t = some (.inr ([], 7, out)) := by
        unfold kR
        rw [decide_eq_true (by omega), cond_true]
      simp only [qA, rnd, hb, Option.bind_some, Sum.isLeft_inr, Bool.false_eq_true, if_false]
    · obtain ⟨x, h1, h2⟩ := GI a b ts (out ++ [t]) (by simp; omega)
      refine ⟨x, ?_, ?_⟩
      · have hb : kR c0 c1 c2 c3 c4 a b out t = some (.inl (a, b, out ++ [t])) := by
          unfold kR
          rw [decide_eq_false (by omega), cond_false, aO (by simp only [List.length_cons, List.length_nil]; omega)]
        simp only [qA, rnd, hb, Option.bind_some, Sum.isLeft_inl, if_true]
        exact h1
      · have e : (out ++ [t]).length + ts.length = out.length + (t :: ts).length := by simp; omega
        rw [e] at h2
        simpa using h2

theorem RV (size hop : Int) (s : bB) (frm front : Int) : qR size hop s frm front = some (CU size hop s frm front) := by
  unfold qR CU
  simp only [oM, lX, Option.bind_some]
  rw [show ((((decide ((1 : Int) ≤ size)) && (decide (size ≤ (1099511627776 : Int)))) && (decide ((1 : Int) ≤ hop))) && (decide (hop ≤ (1099511627776 : Int)))) = sZ size hop from rfl, show ((decide ((0 : Int) ≤ frm)) && (decide (frm ≤ (1125899906842624 : Int)))) = lT frm from rfl, show ((decide ((0 : Int) ≤ front)) && (decide (front ≤ (1125899906842624 : Int)))) = lT front from rfl]
  cases hm : sZ size hop with
  | false => rfl
  | true =>
    cases h1 : lT frm with
    | false => rfl
    | true =>
      cases h2 : lT front with
      | false => rfl
      | true =>
        simp only [Bool.not_true, cond_false, Bool.not_false, dR, cond_true, Option.bind_some, Bool.or_self, Bool.and_self, Bool.false_eq_true, if_false]
        by_cases hs : s.From < -1 ∨ s.To ≤ s.From ∨ 1125899906842624 < s.To
        · have : (((decide (s.From < (-1 : Int))) || (decide (s.To ≤ s.From))) || (decide ((1125899906842624 : Int) < s.To))) = true := by simp only [Bool.or_eq_true, decide_eq_true_eq]; omega
          rw [this, if_pos hs]; rfl
        · have : (((decide (s.From < (-1 : Int))) || (decide (s.To ≤ s.From))) || (decide ((1125899906842624 : Int) < s.To))) = false := by simp only [Bool.or_eq_false_iff, decide_eq_false_iff_not]; omega
          rw [this, if_neg hs, cond_false]
          have ok := VG hm h1 h2
          simp only [oG, Option.bind_some, sP]
          obtain ⟨x, e1, e2⟩ := GI (c0 := hop) (c1 := s) (c2 := size) (c3 := frm) (c4 := front) [] 0 (lQ size hop frm front s) [] (by simp)
          rw [EK ok (by omega) (by omega) e1, Option.bind_some]
          simp only [List.length_nil, Nat.zero_add, List.nil_append] at e2
          by_cases hl : 1024 < (lQ size hop frm front s).length
          · rw [if_pos hl] at e2 ⊢
            obtain ⟨q, rfl⟩ := e2
            rfl
          · rw [if_neg hl] at e2 ⊢
            subst e2
            rfl

end Go.Abs
namespace Go.Abs
open Go
abbrev G1 := List aD × List aF

def nB (size t : Int) : Int := min (t + size) 1125899906842624

def II (size t : Int) (gs : List G1) : List gW := gs.filterMap fun g => if 0 < lA g.2 t (nB size t) then some ⟨g.1, lA g.2 t (nB size t)⟩ else none

def nT (size hop frm front : Int) (gs : List G1) (m : List (Int × aQ)) : Option (List (Int × aQ)) := dA (fun m g => dA (kP size g) m (lZ size hop frm front g.2)) m gs

def sI (size hop frm front : Int) (gs : List G1) : List Int := gs.flatMap fun g => lZ size hop frm front g.2

def xW (size hop frm front : Int) (gs : List G1) : List Int := (sI size hop frm front gs).foldl (fun c t => mA t c) []

def rX (c : List Int) (ts : List Int) : List Int := ts.foldl (fun c t => mA t c) c

theorem wM (c : List Int) (t : Int) (ts : List Int) : rX c (t :: ts) = rX (mA t c) ts := rfl

theorem MK (c a b : List Int) : rX c (a ++ b) = rX (rX c a) b := List.foldl_append ..

theorem CR {last : Int} : ∀ {ts c : List Int}, Inc last c → (∀ t ∈ ts, last < t ∧ t < 1125899906842624) → Inc last (rX c ts)
  | [], c, h, _ => h
  | t :: ts, c, h, ht => by
    rw [wM]
    exact CR (AQ h (ht t (by simp)).1 (ht t (by simp)).2) fun x hx => ht x (by simp [hx])

theorem JV {x : Int} : ∀ {ts c : List Int}, x ∈ rX c ts ↔ x ∈ ts ∨ x ∈ c
  | [], c => by simp [rX]
  | t :: ts, c => by
    rw [wM, JV, GW]
    simp only [List.mem_cons]
    constructor
    · rintro (h | h | h)
      · exact .inl (.inr h)
      · exact .inl (.inl h)
      · exact .inr h
    · rintro ((h | h) | h)
      · exact .inr (.inl h)
      · exact .inl h
      · exact .inr (.inr h)

theorem DF {t : Int} : ∀ {ps : List Int}, ps.length ≤ (mA t ps).length
  | [] => by simp [mA]
  | p :: r => by
    unfold mA
    split
    · exact Nat.le_refl _
    · split
      · simp
      · simp only [List.length_cons]
        have := DF (t := t) (ps := r)
        omega

theorem AM : ∀ {ts c : List Int}, c.length ≤ (rX c ts).length
  | [], c => Nat.le_refl _
  | t :: ts, c => by
    rw [wM]
    exact Nat.le_trans DF AM

theorem DN {size : Int} {g : G1} {last : Int} : ∀ {ts : List Int} {m : List (Int × aQ)} {c : List Int}, Inc last c → (∀ t ∈ ts, last < t ∧ t < 1125899906842624) → (m.map (·.1)).Perm c → m.length ≤ 1024 →
    (∀ m', dA (kP size g) m ts = some m' → (m'.map (·.1)).Perm (rX c ts) ∧ m'.length ≤ 1024) ∧ (dA (kP size g) m ts = none → 1024 < (rX c ts).length)
  | [], m, c, _, _, hp, hl => ⟨fun m' h => by simp only [dA, Option.some.injEq] at h; subst h; exact ⟨hp, hl⟩, fun h => by simp [dA] at h⟩
  | t :: ts, m, c, hi, ht, hp, hl => by
    have ht0 := ht t (by simp)
    have hi' := AQ hi ht0.1 ht0.2
    have rec1 := fun (m1 : List (Int × aQ)) => DN (size := size) (g := g) (last := last) (ts := ts) (m := m1) (c := mA t c) hi' (fun x hx => ht x (by simp [hx]))
    simp only [dA, wM]
    cases hg : eY m t with
    | none =>
      have hk : t ∉ m.map (·.1) := AW.1 hg
      have hk' : t ∉ c := fun h => hk (hp.mem_iff.2 h)
      have hw := EN hk'
      by_cases hf : m.length = 1024
      · have e : kP size g m t = none := by unfold kP; rw [hg]; simp [hf]
        rw [e]
        refine ⟨fun m' h => (by simp at h), fun _ => ?_⟩
        have h1 := hw.length_eq
        have h2 := hp.length_eq
        have h3 := AM (ts := ts) (c := mA t c)
        simp only [List.length_map, List.length_cons] at h1 h2
        omega
      · have e : kP size g m t = some (gC m t (iL g (mkW size t))) := by unfold kP; rw [hg]; simp [hf]
        rw [e]
        have hp' : ((gC m t (iL g (mkW size t))).map (·.1)).Perm (mA t c) := by
          rw [HB hk]
          exact (List.perm_append_comm.trans (List.Perm.cons _ hp)).trans hw.symm
        refine rec1 _ hp' ?_
        have h1 := congrArg List.length (HB (v := iL g (mkW size t)) hk)
        simp only [List.length_map, List.length_append, List.length_cons, List.length_nil] at h1
        omega
    | some p =>
      have e : kP size g m t = some (gC m t (iL g p)) := by unfold kP; rw [hg]
      rw [e]
      have hk : t ∈ m.map (·.1) := by
        refine Decidable.byContradiction fun h => ?_
        rw [AW.2 h] at hg; cases hg
      have hw : mA t c = c := EH hi (hp.mem_iff.1 hk)
      have hk2 := GL (v := iL g p) hk
      refine rec1 _ (by rw [hk2, hw]; exact hp) ?_
      have h1 := congrArg List.length hk2
      simp only [List.length_map] at h1
      omega

theorem vU {size hop frm front : Int} (ok : OkH size hop frm front) (f : List aF) : ∀ t ∈ lZ size hop frm front f, -1 < t ∧ t < 1125899906842624 := by
  intro t ht
  obtain ⟨s, _, hs⟩ := List.mem_flatMap.1 ht
  have := zA ok s t hs
  omega

theorem DC {size hop frm front : Int} (ok : OkH size hop frm front) : ∀ {gs : List G1} {m : List (Int × aQ)} {c : List Int}, Inc (-1) c → (m.map (·.1)).Perm c → m.length ≤ 1024 →
    (∀ m', nT size hop frm front gs m = some m' → (m'.map (·.1)).Perm (rX c (sI size hop frm front gs)) ∧ m'.length ≤ 1024) ∧ (nT size hop frm front gs m = none → 1024 < (rX c (sI size hop frm front gs)).length)
  | [], m, c, _, hp, hl => ⟨fun m' h => by simp only [nT, dA, Option.some.injEq] at h; subst h; exact ⟨hp, hl⟩, fun h => by simp [nT, dA] at h⟩
  | g :: gs, m, c, hi, hp, hl => by
    obtain ⟨k1, k2⟩ := DN (size := size) (g := g) hi (vU ok g.2) hp hl
    have e : sI size hop frm front (g :: gs) = lZ size hop frm front g.2 ++ sI size hop frm front gs := rfl
    rw [e, MK]
    simp only [nT, dA]
    cases hs : dA (kP size g) m (lZ size hop frm front g.2) with
    | none =>
      refine ⟨fun m' h => (by simp at h), fun _ => ?_⟩
      have := k2 hs
      have := AM (ts := sI size hop frm front gs) (c := rX c (lZ size hop frm front g.2))
      omega
    | some m1 =>
      obtain ⟨p1, p2⟩ := k1 m1 hs
      exact DC ok (gs := gs) (m := m1) (CR hi (vU ok g.2)) p1 p2

theorem GU {size : Int} {g : G1} (x : Int) : ∀ {ts : List Int} {m m' : List (Int × aQ)}, dA (kP size g) m ts = some m' → eY m' x = if x ∈ ts then some (iL g ((eY m x).getD (mkW size x))) else eY m x
  | [], m, m', h => by simp only [dA, Option.some.injEq] at h; subst h; simp
  | t :: ts, m, m', h => by
    simp only [dA] at h
    obtain ⟨m1, h1, h2⟩ := aT h
    have e : ∃ p, m1 = gC m t (iL g p) ∧ p = (eY m t).getD (mkW size t) := by
      unfold kP at h1
      cases hg : eY m t with
      | none =>
        rw [hg] at h1
        simp only at h1
        split at h1
        · cases h1
        · cases h1; exact ⟨_, rfl, rfl⟩
      | some p => rw [hg] at h1; cases h1; exact ⟨_, rfl, rfl⟩
    obtain ⟨p, rfl, rfl⟩ := e
    rw [GU x h2, zT]
    by_cases hx : x = t
    · subst hx
      simp only [if_true, List.mem_cons, true_or, Option.getD_some, KB, ite_self]
    · simp only [hx, if_false, List.mem_cons, false_or]

def tM (size hop frm front x : Int) (o : Option aQ) (gs : List G1) : Option aQ :=
  gs.foldl (fun o g => if x ∈ lZ size hop frm front g.2 then some (iL g (o.getD (mkW size x))) else o) o

theorem HP {size hop frm front : Int} (x : Int) : ∀ {gs : List G1} {m m' : List (Int × aQ)}, nT size hop frm front gs m = some m' → eY m' x = tM size hop frm front x (eY m x) gs
  | [], m, m', h => by simp only [nT, dA, Option.some.injEq] at h; subst h; rfl
  | g :: gs, m, m', h => by
    simp only [nT, dA] at h
    obtain ⟨m1, h1, h2⟩ := aT h
    have := HP x (gs := gs) h2
    rw [this, GU x h1]
    rfl

def qL (size hop frm front x : Int) (gs : List G1) : List gW := gs.filterMap fun g => if x ∈ lZ size hop frm front g.2 then some ⟨g.1, lA g.2 x (nB size x)⟩ else none

theorem yX {size hop frm front x : Int} : ∀ {gs : List G1} {rs : List gW}, zL gs → rs ≠ [] → (∀ g ∈ gs, (oU rs).Row ≠ g.1) → tM size hop frm front x (some ⟨⟨x, nB size x⟩, rs⟩) gs = some ⟨⟨x, nB size x⟩, rs ++ qL size hop frm front x gs⟩
  | [], rs, _, _, _ => by simp [tM, qL]
  | g :: gs, rs, hs, hn, hl => by
    have hs' := List.pairwise_cons.1 hs
    have hg := hl g (by simp)
    simp only [tM, List.foldl_cons, Option.getD_some]
    by_cases hx : x ∈ lZ size hop frm front g.2
    · rw [if_pos hx]
      have e : iL g ⟨⟨x, nB size x⟩, rs⟩ = ⟨⟨x, nB size x⟩, rs ++ [⟨g.1, lA g.2 x (nB size x)⟩]⟩ := by
        unfold iL
        rw [if_pos (.inr hg)]
      rw [e]
      have := yX (size := size) (hop := hop) (frm := frm) (front := front) (x := x) (gs := gs) (rs := rs ++ [⟨g.1, lA g.2 x (nB size x)⟩]) hs'.2 (by simp) (fun q hq => by
        rw [tF]
        intro h
        have := hs'.1 q hq
        unfold ltG at this
        rw [show g.1 = q.1 from h] at this
        exact yA this)
      unfold tM at this
      rw [this]
      simp [qL, hx]
    · rw [if_neg hx]
      have := yX (size := size) (hop := hop) (frm := frm) (front := front) (x := x) (gs := gs) (rs := rs) hs'.2 hn (fun q hq => hl q (by simp [hq]))
      unfold tM at this
      rw [this]
      simp [qL, hx]

theorem DT {size hop frm front x : Int} : ∀ {gs : List G1}, zL gs → tM size hop frm front x none gs = if qL size hop frm front x gs = [] then none else some ⟨⟨x, nB size x⟩, qL size hop frm front x gs⟩
  | [], _ => by simp [tM, qL]
  | g :: gs, hs => by
    have hs' := List.pairwise_cons.1 hs
    simp only [tM, List.foldl_cons, Option.getD_none]
    by_cases hx : x ∈ lZ size hop frm front g.2
    · rw [if_pos hx]
      have e : iL g (mkW size x) = ⟨⟨x, nB size x⟩, [⟨g.1, lA g.2 x (nB size x)⟩]⟩ := by
        unfold iL mkW
        rw [if_pos (.inl rfl)]; rfl
      rw [e]
      have := yX (size := size) (hop := hop) (frm := frm) (front := front) (x := x) (gs := gs) (rs := [⟨g.1, lA g.2 x (nB size x)⟩]) hs'.2 (by simp) (fun q hq h => by
        have h1 := hs'.1 q hq
        unfold ltG at h1
        have h2 : g.1 = q.1 := h
        rw [h2] at h1
        exact yA h1)
      unfold tM at this
      rw [this]
      simp [qL, hx]
    · rw [if_neg hx]
      have := DT (size := size) (hop := hop) (frm := frm) (front := front) (x := x) (gs := gs) hs'.2
      unfold tM at this
      rw [this]
      have e : qL size hop frm front x (g :: gs) = qL size hop frm front x gs := by simp [qL, hx]
      rw [e]

theorem ER {size hop frm front : Int} (ok : OkH size hop frm front) {f : List aF} (hf : jQ f = true) (hv : ∀ t, 0 ≤ val f t) {x : Int} : x ∈ lZ size hop frm front f ↔ (0 ≤ x ∧ (∃ k : Int, x = k * hop) ∧ frm ≤ x ∧ x < front ∧ x < 1125899906842624) ∧ 0 < lA f x (nB size x) := by
  have hs0 := ok.s0
  unfold lZ
  rw [List.mem_flatMap]
  constructor
  · rintro ⟨s, h1, h2⟩
    obtain ⟨a1, a2, a3, a4, a5, a6, a7⟩ := (BY ok).1 h2
    have hsp := BV hf s h1
    refine ⟨⟨a1, a2, a3, a4, a5⟩, (BS hf hv (by unfold nB; omega)).2 ⟨max x s.From, by omega, by unfold nB; omega, ?_⟩⟩
    exact (DZ hf hv (by omega)).1 ⟨s, h1, by omega, by omega⟩
  · rintro ⟨⟨a1, a2, a3, a4, a5⟩, h⟩
    obtain ⟨y, y1, y2, y3⟩ := (BS hf hv (by unfold nB; omega)).1 h
    unfold nB at y2
    obtain ⟨s, h1, h2, h3⟩ := (DZ hf hv (by omega)).2 y3
    exact ⟨s, h1, (BY ok).2 ⟨a1, a2, a3, a4, a5, by omega, by omega⟩⟩

theorem filterMap_eq {α β : Type} {f h : α → Option β} : ∀ {l : List α}, (∀ a ∈ l, f a = h a) → l.filterMap f = l.filterMap h
  | [], _ => rfl
  | a :: l, H => by
    rw [List.filterMap_cons, List.filterMap_cons, H a (by simp), filterMap_eq fun b hb => H b (by simp [hb])]

theorem PX {size hop frm front x : Int} (ok : OkH size hop frm front) (hx : 0 ≤ x ∧ (∃ k : Int, x = k * hop) ∧ frm ≤ x ∧ x < front ∧ x < 1125899906842624) {gs : List G1} (hg : ∀ g ∈ gs, jQ g.2 = true ∧ ∀ t, 0 ≤ val g.2 t) : qL size hop frm front x gs = II size x gs := by
  unfold qL II
  refine filterMap_eq fun g h => ?_
  have := ER ok (hg g h).1 (hg g h).2 (x := x)
  by_cases hb : 0 < lA g.2 x (nB size x)
  · rw [if_pos (this.2 ⟨hx, hb⟩), if_pos hb]
  · rw [if_neg (fun q => hb (this.1 q).2), if_neg hb]

def XW (size hop frm front : Int) (gs : List G1) : List aQ := (xW size hop frm front gs).map fun t => ⟨⟨t, nB size t⟩, II size t gs⟩

theorem TE {size hop frm front x : Int} {gs : List G1} : x ∈ xW size hop frm front gs ↔ ∃ g ∈ gs, x ∈ lZ size hop frm front g.2 := by
  have : xW size hop frm front gs = rX [] (sI size hop frm front gs) := rfl
  rw [this, JV]
  simp [sI, List.mem_flatMap]

theorem SX {size hop frm front : Int} (ok : OkH size hop frm front) (gs : List G1) : Inc (-1) (xW size hop frm front gs) := by
  refine CR (ts := sI size hop frm front gs) (c := []) trivial fun t ht => ?_
  obtain ⟨g, _, h⟩ := List.mem_flatMap.1 ht
  exact vU ok g.2 t h

theorem UO {size hop frm front : Int} (ok : OkH size hop frm front) {gs : List G1} (hs : zL gs) (hg : ∀ g ∈ gs, jQ g.2 = true ∧ ∀ t, 0 ≤ val g.2 t) :
    (∀ m', nT size hop frm front gs [] = some m' → (xW size hop frm front gs).length ≤ 1024 ∧ (m'.map (·.1)).Perm (xW size hop frm front gs) ∧ ∀ x ∈ xW size hop frm front gs, eY m' x = some ⟨⟨x, nB size x⟩, II size x gs⟩) ∧
    (nT size hop frm front gs [] = none → 1024 < (xW size hop frm front gs).length) := by
  obtain ⟨k1, k2⟩ := DC ok (gs := gs) (m := []) (c := []) trivial (List.Perm.refl _) (by simp)
  refine ⟨fun m' h => ?_, k2⟩
  obtain ⟨p1, p2⟩ := k1 m' h
  refine ⟨?_, p1, fun x hx => ?_⟩
  · have := p1.length_eq
    simp only [List.length_map] at this
    show (rX [] (sI size hop frm front gs)).length ≤ 1024
    omega
  · rw [HP x h]
    obtain ⟨g, hgm, hxg⟩ := TE.1 hx
    have hxx := (ER ok (hg g hgm).1 (hg g hgm).2).1 hxg
    have e : eY ([] : List (Int × aQ)) x = none := rfl
    rw [e, DT hs, ← PX ok hxx.1 hg, if_neg]
    intro hc
    have : (⟨g.1, lA g.2 x (nB size x)⟩ : gW) ∈ qL size hop frm front x gs := List.mem_filterMap.2 ⟨g, hgm, by rw [if_pos hxg]⟩
    rw [hc] at this
    simp at this

end Go.Abs
namespace Go.Abs
open Go
def FH (l : List bE) (size hop frm front : Int) : List aQ × Int :=
  if !(sZ size hop && xG l) then ([], 2) else if !xP l then ([], 20) else if !(lT frm && lT front) then ([], 13)
  else if 1024 < (xW size hop frm front (groups l)).length then ([], 7) else (XW size hop frm front (groups l), 0)

def ZA (n : Nat) (m : List (Int × aQ)) : Prop := ∀ t p, eY m t = some p → p.Rows.length ≤ n ∧ (p.Rows ≠ [] → (oU p.Rows).Row.length ≤ 4398046510976)

theorem DU {size hop frm front : Int} (ok : OkH size hop frm front) (a : List aQ) (b : Int) : ∀ (gs : List G1) (n : Nat) (m : List (Int × aQ)), (∀ g ∈ gs, jQ g.2 = true ∧ g.1.length ≤ 4398046510976) → n + gs.length ≤ 900000 → ZA n m →
    ∃ x, itG (fun st r f => rnd (fun (q : List aQ × Int × List (Int × aQ)) => lB size hop frm front q.1 q.2.1 q.2.2 r f) st) gs (.inl (a, b, m)) = some x ∧ (∀ m', nT size hop frm front gs m = some m' → x = .inl (a, b, m')) ∧ (nT size hop frm front gs m = none → ∃ q, x = .inr ([], 7, q))
  | [], n, m, _, _, _ => ⟨_, rfl, fun m' h => by simp only [nT, dA, Option.some.injEq] at h; subst h; rfl, fun h => by simp [nT, dA] at h⟩
  | g :: gs, n, m, hg, hn, hm => by
    obtain ⟨h1, h2⟩ := hg g (by simp)
    simp only [List.length_cons] at hn
    obtain ⟨y, e1, e2, e3⟩ := SH ok (g := g) h1 h2 (n := n) (by omega) (m := m) (fun t p h => ⟨.inl (hm t p h).1, (hm t p h).2⟩)
    simp only [itG, nT, dA]
    cases hs : dA (kP size g) m (lZ size hop frm front g.2) with
    | none =>
      have e4 := e3 hs
      refine ⟨.inr ([], 7, y.2), ?_, fun m' h => (by simp at h), fun _ => ⟨_, rfl⟩⟩
      have hb : lB size hop frm front a b m g.1 g.2 = some (.inr ([], 7, y.2)) := by
        unfold lB
        rw [e1, Option.bind_some, e4]; rfl
      simp only [rnd, hb, Option.bind_some, Sum.isLeft_inr, Bool.false_eq_true, if_false]
    | some m1 =>
      obtain ⟨rfl, hf⟩ := e2 m1 hs
      have hm1 : ZA (n + 1) m1 := fun t p h => by
        obtain ⟨q1, q2⟩ := hf t p h
        refine ⟨?_, q2⟩
        rcases q1 with q | ⟨_, _, q⟩ <;> omega
      obtain ⟨x, f1, f2, f3⟩ := DU ok a b gs (n + 1) m1 (fun q hq => hg q (by simp [hq])) (by omega) hm1
      refine ⟨x, ?_, f2, f3⟩
      have hb : lB size hop frm front a b m g.1 g.2 = some (.inl (a, b, m1)) := by
        unfold lB
        rw [e1, Option.bind_some]; rfl
      simp only [rnd, hb, Option.bind_some, Sum.isLeft_inl, if_true]
      exact f1

theorem EB : ∀ (q s : List Int), s.length + q.length ≤ 100000 → dA nU s q = some (s ++ q)
  | [], s, _ => by simp [dA]
  | t :: q, s, h => by
    simp only [List.length_cons] at h
    have e : nU s t = some (s ++ [t]) := by
      unfold nU
      rw [aO (by simp only [List.length_cons, List.length_nil]; omega)]
    simp only [dA, e, Option.bind_some]
    rw [EB q (s ++ [t]) (by simp; omega)]
    simp

theorem ZK {m : List (Int × aQ)} {B : List Int} {mk : Int → aQ} (hp : (m.map (·.1)).Perm B) (hs : B.Pairwise (· ≤ ·)) (hl : B.length ≤ 1024) (hg : ∀ x ∈ B, eY m x = some (mk x)) : qV m = some (B.map mk, 0) := by
  have hml : m.length = B.length := by simpa using hp.length_eq
  unfold qV
  rw [aO (by simp only [lN]; omega)]
  refine HE fun q hq => ?_
  have hqB : q.Perm B := hq.trans hp
  have hql := hqB.length_eq
  rw [EB q [] (by simp only [List.length_nil]; omega), Option.bind_some, List.nil_append]
  unfold wE
  rw [XD (by omega) hqB.symm hs, Option.bind_some, aO (by simp only [lN]; omega)]
  have key := FZ (l := B) (body := fun s : List aQ × Int => oA m B (lN B) s.1 s.2) (fun (s : List aQ) i => (s, i)) (fun s r => s ++ r.map mk)
    (fun s r => s.length + r.length ≤ 100000 ∧ ∀ x ∈ r, x ∈ B) [] ?_ ?_ ⟨by simp only [List.length_nil]; omega, fun x hx => hx⟩
  · rw [key]
    simp
  · rintro i x r s hx ⟨h1, h2⟩
    left
    simp only [List.length_cons] at h1
    obtain ⟨d1, d2, d3, d4⟩ := idx hx (by omega)
    refine ⟨s ++ [mk x], ?_, ⟨by simp; omega, fun y hy => h2 y (by simp [hy])⟩, by simp⟩
    simp only [oA, lN, gD, wR, d1, cond_true, aO d2, d3, d4, hg x (h2 x (by simp))]
    rw [aO (by simp only [List.length_cons, List.length_nil]; omega)]
  · rintro s _
    simp only [oA, lN, oK, cond_false]
    simp

theorem MH {l : List bE} (hl : okL l) (size hop frm front : Int) : sK l size hop frm front = some (FH l size hop frm front) := by
  unfold sK FH
  simp only [oM, lX, Option.bind_some]
  rw [show ((((decide ((1 : Int) ≤ size)) && (decide (size ≤ (1099511627776 : Int)))) && (decide ((1 : Int) ≤ hop))) && (decide (hop ≤ (1099511627776 : Int)))) = sZ size hop from rfl, show ((decide ((0 : Int) ≤ frm)) && (decide (frm ≤ (1125899906842624 : Int)))) = lT frm from rfl, show ((decide ((0 : Int) ≤ front)) && (decide (front ≤ (1125899906842624 : Int)))) = lT front from rfl]
  rw [NA hl, RI hl]
  cases hm : sZ size hop with
  | false => rfl
  | true =>
    cases he : xG l with
    | false => rfl
    | true =>
      simp only [Bool.not_true, Bool.not_false, dR, cond_true, Option.bind_some, Bool.or_self, cond_false, Bool.and_self, Bool.false_eq_true, if_false]
      cases ht : xP l with
      | false => rfl
      | true =>
        simp only [Bool.not_true, cond_false, Bool.false_eq_true, if_false]
        cases h1 : lT frm with
        | false => rfl
        | true =>
          cases h2 : lT front with
          | false => rfl
          | true =>
            simp only [Bool.not_true, Bool.not_false, cond_true, Option.bind_some, Bool.or_self, cond_false, Bool.and_self, Bool.false_eq_true, if_false]
            have ok := VG hm h1 h2
            obtain ⟨e1, e2, e3⟩ := NH he
            have hn := OV l
            have hv : ∀ g ∈ groups l, jQ g.2 = true ∧ ∀ t, 0 ≤ val g.2 t := fun g hg => by
              refine ⟨(e2 g hg).2, fun t => ?_⟩
              have := (OI.1 ht).2 g.1 t
              rwa [← yO e3, KS e3 hg] at this
            have hrow : ∀ g ∈ groups l, jQ g.2 = true ∧ g.1.length ≤ 4398046510976 := fun g hg => ⟨(e2 g hg).2, PW hl hg⟩
            unfold wB
            simp only [sO, Option.bind_some]
            obtain ⟨x, f1, f2, f3⟩ := DU ok [] 0 (groups l) 0 [] hrow (by omega) (fun t p h => by simp [eY] at h)
            rw [OK hl (s' := x) (by rw [he]; exact f1), Option.bind_some]
            obtain ⟨k1, k2⟩ := UO ok e3 hv
            cases hs : nT size hop frm front (groups l) [] with
            | none =>
              obtain ⟨q, rfl⟩ := f3 hs
              rw [if_pos (k2 hs)]; rfl
            | some m1 =>
              obtain rfl := f2 m1 hs
              obtain ⟨p1, p2, p3⟩ := k1 m1 hs
              rw [if_neg (by omega)]
              simp only [Sum.elim_inl]
              exact ZK p2 (WH (SX ok _)) p1 p3

end Go.Abs
namespace Go.Abs
open Go
def l28 : List bE := [⟨[FB], 3, 1⟩, ⟨[FB], 7, -1⟩]

theorem XV : okL l28 := ⟨by decide, by decide⟩

theorem XZ : qD 10 5 12 = (5, 0) := by decide +kernel

theorem UK : CU 10 5 ⟨3, 7⟩ 0 100 = ([0, 5], 0) := by decide +kernel

theorem XF : FH l28 10 5 0 100 = ([⟨⟨0, 10⟩, [⟨[FB], 1⟩]⟩, ⟨⟨5, 15⟩, [⟨[FB], 1⟩]⟩], 0) := by decide +kernel

theorem QA : oE = some true := by
  unfold oE
  have h1 := MH XV 10 5 0 100
  rw [XF] at h1
  simp only [l28, FB] at h1
  rw [FI, XZ, Option.bind_some, RV, UK, Option.bind_some, h1, Option.bind_some, aO (fun _ => by decide), aO (fun _ => by decide), aO (fun _ => by decide)]
  rfl

end Go.Abs
namespace Go.Abs
open Go
theorem IT {size hop t : Int} (h : (qD size hop t).2 = 0) : sZ size hop = true ∧ lT t = true ∧ (qD size hop t).1 = if t = 1125899906842624 then 1125899906842624 else min (gF hop (t - size)) 1125899906842624 := by
  unfold qD at h ⊢
  cases hm : sZ size hop with
  | false => rw [hm] at h; simp at h
  | true =>
    cases ht : lT t with
    | false => rw [hm, ht] at h; simp at h
    | true =>
      refine ⟨rfl, rfl, ?_⟩
      simp only [Bool.not_true, Bool.false_eq_true, if_false]
      split <;> rfl

theorem KO (a0 : Int) (w0 : GH a0) (a1 : Int) (w1 : GH a1) (a2 : Int) (w2 : GH a2) (a3 : Int) (w3 : GH a3) : qH a0 a1 a2 a3 = some true := by
  unfold qH
  rw [FI, FI, QA]
  simp only [Option.bind_some]
  by_cases o1 : (qD a0 a1 a2).2 = 0
  · by_cases o2 : (qD a0 a1 a3).2 = 0
    · obtain ⟨hm, t1, e1⟩ := IT o1
      obtain ⟨_, t2, e2⟩ := IT o2
      obtain ⟨m1, m2, m3, m4⟩ := zU hm
      have k1 := tD t1
      have k2 := tD t2
      have hw : IntKind.i64.wrap (a2 - a0) = a2 - a0 := dY (by omega) (by omega)
      obtain ⟨b1, b2, b3, b4, b5⟩ := oC (n := a2 - a0) m3
      obtain ⟨c1, c2, c3, c4, c5⟩ := oC (n := a3 - a0) m3
      have mono : a2 ≤ a3 → gF a1 (a2 - a0) ≤ gF a1 (a3 - a0) := fun h => uS m3 c1 c5 (by omega)
      simp only [o1, o2, decide_true, Bool.not_true, Bool.or_self, cond_false, hw]
      have q1 : decide ((qD a0 a1 a2).1 ≤ a2 - a0) = false := decide_eq_false (by rw [e1]; split <;> omega)
      have q2 : ((decide (a1 ≤ a0)) && (decide (a2 < (qD a0 a1 a2).1))) = false := by
        rw [Bool.eq_false_iff]; intro hc
        simp only [Bool.and_eq_true, decide_eq_true_eq] at hc
        rw [e1] at hc
        split at hc
        · omega
        · rcases Int.lt_or_le (a2 - a0) 0 with h | h
          · have := b4 h; omega
          · have := b3 h; omega
      have q3 : ((decide (a2 ≤ a3)) && (decide ((qD a0 a1 a3).1 < (qD a0 a1 a2).1))) = false := by
        rw [Bool.eq_false_iff]; intro hc
        simp only [Bool.and_eq_true, decide_eq_true_eq] at hc
        rw [e1, e2] at hc
        split at hc <;> split at hc
        · omega
        · omega
        · omega
        · have := mono hc.1; omega
      have q4 : decide ((0 : Int) ≤ (qD a0 a1 a2).1) = true := decide_eq_true (by rw [e1]; split <;> omega)
      have q5 : decide ((qD a0 a1 a2).1 ≤ (1125899906842624 : Int)) = true := decide_eq_true (by rw [e1]; split <;> omega)
      simp only [q1, q2, q3, q4, q5, Bool.or_self, cond_false, Bool.and_self]
    · simp [o2]
  · simp [o1]

end Go.Abs
