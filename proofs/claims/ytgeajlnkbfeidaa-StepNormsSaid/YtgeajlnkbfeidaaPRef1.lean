/- Plain laws of the document's own answer for layer 9: which lists are functions, and their values. -/
import Derived.Test.YtgeajlnkbfeidaaPStep4
namespace Go.Abs
open Go

/-- The place ahead of the k-th one. -/
def prevAt (f : List api_Jump) : Nat → Int
  | 0 => -2
  | k + 1 => (f.getD k default).At

theorem refMay_body {f : List api_Jump} {i : Nat} {a : api_Jump} {last : Int} (ha : f[i]? = some a) (hl : f.length ≤ 1024) (hlast : last = prevAt f i) (hp : -2 ≤ last) (hp' : 0 < i → -1 ≤ last) :
    ref09_May_l2 f i = some (if badJ last a then .inr (.inr false) else .inl ((i + 1 : Nat) : Int)) := by
  obtain ⟨d1, d2, d3, d4⟩ := idx ha (by omega)
  have hlt : i < f.length := (List.getElem?_eq_some_iff.1 ha).1
  simp only [ref09_May_l2, d1, cond_true, d3, d4]
  rw [asrt_pos d2, asrt_pos (fun _ => d2), asrt_pos (fun _ => d2), asrt_pos (fun _ => d2), asrt_pos (fun _ => d2), asrt_pos (fun _ => d2)]
  cases i with
  | zero =>
    rw [asrt_pos (fun h => by simp at h)]
    have hm2 : last = -2 := hlast
    subst hm2
    by_cases hb : badJ (-2) a = true
    · rw [if_pos hb]
      have hx : (((((decide (a.At < -1)) || (decide (1125899906842624 ≤ a.At))) || (decide (a.Net = 0))) || (decide (1048576 < a.Net))) || (decide (a.Net < -1048576))) = true := by
        simp [badJ, fairB] at hb ⊢; omega
      rw [hx, cond_true]
    · have hb' : badJ (-2) a = false := by simpa using hb
      rw [if_neg hb]
      rw [badJ_false] at hb'
      have hx : (((((decide (a.At < -1)) || (decide (1125899906842624 ≤ a.At))) || (decide (a.Net = 0))) || (decide (1048576 < a.Net))) || (decide (a.Net < -1048576))) = false := by
        simp; omega
      rw [hx, cond_false]
      simp
  | succ k =>
    have hw : IntKind.i64.wrap (((k + 1 : Nat) : Int) - 1) = (k : Int) := by rw [wrap_in (by omega) (by omega)]; omega
    have hg : List.getD f (Int.toNat (k : Int)) default = f.getD k default := by rw [Int.toNat_natCast]
    rw [hw, hg, asrt_pos (fun _ => ⟨by omega, by omega⟩)]
    have hpos : decide ((0 : Int) < ((k + 1 : Nat) : Int)) = true := by simp
    have hp1 := hp' (by omega)
    have hl2 : (f.getD k default).At = last := hlast.symm
    rw [hpos, Bool.true_and, hl2]
    by_cases hb : badJ last a = true
    · rw [if_pos hb]
      by_cases hx : (((((decide (a.At < -1)) || (decide (1125899906842624 ≤ a.At))) || (decide (a.Net = 0))) || (decide (1048576 < a.Net))) || (decide (a.Net < -1048576))) = true
      · rw [hx, cond_true]
      · have hx' : (((((decide (a.At < -1)) || (decide (1125899906842624 ≤ a.At))) || (decide (a.Net = 0))) || (decide (1048576 < a.Net))) || (decide (a.Net < -1048576))) = false := by simpa using hx
        have hy : decide (a.At ≤ last) = true := by
          simp [badJ, fairB] at hb hx' ⊢; omega
        rw [hx', cond_false, hy, cond_true]
    · have hb' : badJ last a = false := by simpa using hb
      rw [if_neg hb]
      rw [badJ_false] at hb'
      have hx : (((((decide (a.At < -1)) || (decide (1125899906842624 ≤ a.At))) || (decide (a.Net = 0))) || (decide (1048576 < a.Net))) || (decide (a.Net < -1048576))) = false := by
        simp; omega
      have hy : decide (a.At ≤ last) = false := by simp; omega
      rw [hx, cond_false, hy, cond_false]

theorem refMay_lp {f : List api_Jump} (hl : f.length ≤ 1024) : ∀ (m k : Nat), f.length - k = m → k ≤ f.length → -2 ≤ prevAt f k → (0 < k → -1 ≤ prevAt f k) → lp (fun s => ref09_May_l2 f s) (k : Int) = some (if chk (prevAt f k) (f.drop k) = true then .inl () else .inr false)
  | 0, k, hm, hk, _, _ => by
    have : k = f.length := by omega
    subst this
    rw [List.drop_length]
    refine lp_last ?_
    show ref09_May_l2 f _ = _
    simp [ref09_May_l2, chk]
  | m + 1, k, hm, hk, hp, hp' => by
    have h1 : k < f.length := by omega
    have hb := refMay_body (List.getElem?_eq_getElem h1) hl rfl hp hp'
    have e1 : f.drop k = f[k] :: f.drop (k + 1) := List.drop_eq_getElem_cons h1
    have hpa : prevAt f (k + 1) = f[k].At := by simp [prevAt, List.getD_eq_getElem?_getD, h1]
    rw [e1]
    by_cases h : badJ (prevAt f k) f[k] = true
    · rw [if_pos h] at hb
      rw [lp_last (show (fun s => ref09_May_l2 f s) (k : Int) = _ from hb)]
      simp [chk, h]
    · rw [if_neg h] at hb
      have h' : badJ (prevAt f k) f[k] = false := by simpa using h
      have := badJ_false.1 h'
      rw [lp_next (show (fun s => ref09_May_l2 f s) (k : Int) = _ from hb), refMay_lp hl m (k + 1) (by omega) (by omega) (by rw [hpa]; omega) (fun _ => by rw [hpa]; omega), hpa]
      simp [chk, h']

theorem refMay_eq (f : List api_Jump) : s_ref09_May f = some (mayB f) := by
  unfold s_ref09_May mayB
  by_cases hl : f.length ≤ 1024
  · have h1 : decide ((1024 : Int) < ((f.length : Nat) : Int)) = false := by simp; omega
    rw [h1, cond_false]
    unfold ref09_May_h2
    have := refMay_lp hl f.length 0 rfl (Nat.zero_le _) (by simp [prevAt]) (by omega)
    simp only [Int.natCast_zero, List.drop_zero, prevAt] at this
    rw [this]
    cases h : chk (-2) f <;> simp [ref09_May_j1, hl]
  · have h1 : decide ((1024 : Int) < ((f.length : Nat) : Int)) = true := by simp; omega
    rw [h1, cond_true]
    simp [hl]

end Go.Abs
