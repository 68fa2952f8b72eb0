/- What the laws of layer 9 ask whatever is asked: it holds. When two lists of jumps are the same. -/
import Derived.Test.YtgeajlnkbfeidaaPLive
namespace Go.Abs
open Go

theorem same_body {f g : List api_Jump} {i : Nat} {a b : api_Jump} (ha : f[i]? = some a) (hb : g[i]? = some b) (hl : f.length < 4611686018427387904) (hg : g.length < 4611686018427387904) :
    ref09_Same_l2 f g i = some (if a = b then .inl ((i + 1 : Nat) : Int) else .inr (.inr false)) := by
  obtain ⟨d1, d2, d3, d4⟩ := idx ha hl
  obtain ⟨_, e2, e3, _⟩ := idx hb hg
  simp only [ref09_Same_l2, d1, cond_true, asrt_pos d2, asrt_pos e2, d3, e3, d4]
  obtain ⟨a1, a2⟩ := a
  obtain ⟨b1, b2⟩ := b
  by_cases h1 : a1 = b1 <;> by_cases h2 : a2 = b2 <;> simp [h1, h2]

theorem same_lp {f g : List api_Jump} (hl : f.length < 4611686018427387904) (he : f.length = g.length) : ∀ (m k : Nat), f.length - k = m → k ≤ f.length → lp (fun s => ref09_Same_l2 f g s) (k : Int) = some (if f.drop k = g.drop k then .inl () else .inr false)
  | 0, k, hm, hk => by
    have : k = f.length := by omega
    subst this
    rw [List.drop_length, he, List.drop_length, if_pos rfl]
    refine lp_last ?_
    show ref09_Same_l2 f g _ = _
    simp only [ref09_Same_l2, ← he, idx_end, cond_false]
  | m + 1, k, hm, hk => by
    have h1 : k < f.length := by omega
    have h2 : k < g.length := by omega
    have hb := same_body (List.getElem?_eq_getElem h1) (List.getElem?_eq_getElem h2) hl (by omega)
    have e1 : f.drop k = f[k] :: f.drop (k + 1) := List.drop_eq_getElem_cons h1
    have e2 : g.drop k = g[k] :: g.drop (k + 1) := List.drop_eq_getElem_cons h2
    have hiff : (f.drop k = g.drop k) ↔ (f[k] = g[k] ∧ f.drop (k + 1) = g.drop (k + 1)) := by rw [e1, e2, List.cons.injEq]
    by_cases h : f[k] = g[k]
    · rw [if_pos h] at hb
      rw [lp_next (show (fun s => ref09_Same_l2 f g s) (k : Int) = _ from hb), same_lp hl he m (k + 1) (by omega) (by omega)]
      simp only [hiff, h, true_and]
    · rw [if_neg h] at hb
      rw [lp_last (show (fun s => ref09_Same_l2 f g s) (k : Int) = _ from hb)]
      simp only [hiff, h, false_and, if_false]

theorem same_eq (f g : List api_Jump) (hl : f.length < 4611686018427387904) : s_ref09_Same f g = some (decide (f = g)) := by
  unfold s_ref09_Same
  by_cases he : f.length = g.length
  · have : decide (((f.length : Nat) : Int) = ((g.length : Nat) : Int)) = true := by simp [he]
    rw [this, Bool.not_true, cond_false]
    unfold ref09_Same_h2
    have := same_lp hl he f.length 0 rfl (Nat.zero_le _)
    simp only [Int.natCast_zero] at this
    rw [this]
    by_cases h : f = g <;> simp [h, ref09_Same_j1]
  · have : decide (((f.length : Nat) : Int) = ((g.length : Nat) : Int)) = false := by simp; omega
    rw [this, Bool.not_false, cond_true]
    have : f ≠ g := fun h => he (by rw [h])
    simp [this]

theorem live_eq : s_law09_live = some true := by
  unfold s_law09_live
  rw [live_norm]
  simp only [Option.bind_some]
  rw [mul_eq]
  have h : two (· * ·) [⟨2, 1⟩, ⟨5, -1⟩] [⟨3, 1⟩, ⟨9, -1⟩] = ([⟨3, 1⟩, ⟨5, -1⟩], 0) := by
    have h1 : mayB [⟨2, 1⟩, ⟨5, -1⟩] = true := by decide
    have h2 : mayB [⟨3, 1⟩, ⟨9, -1⟩] = true := by decide
    have h3 : comb (· * ·) [⟨2, 1⟩, ⟨5, -1⟩] [⟨3, 1⟩, ⟨9, -1⟩] = [⟨3, 1⟩, ⟨5, -1⟩] := by
      unfold comb
      rw [merge_lt (by decide), merge_gt (by decide), merge_lt (by decide), merge_g, merge_nil]
      simp [toldL, emit]
    have h4 : mayB [⟨3, 1⟩, ⟨5, -1⟩] = true := by decide
    simp [two, h1, h2, h3, told, h4]
  rw [h]
  simp only [Option.bind_some]
  have s1 : s_ref09_Same [⟨2, 1⟩, ⟨5, -1⟩] [⟨2, 1⟩, ⟨5, -1⟩] = some true := by rw [same_eq _ _ (by simp)]; simp
  have s2 : s_ref09_Same [⟨3, 1⟩, ⟨5, -1⟩] [⟨3, 1⟩, ⟨5, -1⟩] = some true := by rw [same_eq _ _ (by simp)]; simp
  have s3 : s_step_At [⟨2, 1⟩, ⟨5, -1⟩] 4 = some 1 := by
    rw [at_eq]
    have h1 : mayB [⟨2, 1⟩, ⟨5, -1⟩] = true := by decide
    simp [h1, val]
  simp [gcall, s1, s2, s3]

end Go.Abs
