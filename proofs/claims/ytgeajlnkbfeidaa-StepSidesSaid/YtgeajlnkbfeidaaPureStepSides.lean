/- The law StepSides, as a plain law: on its side of a place each part of a function agrees with it; on the other one it is 0, or what the function was last. -/
import Derived.Test.YtgeajlnkbfeidaaPStep6
import Derived.Test.YtgeajlnkbfeidaaPLive2
import Derived.Test.YtgeajlnkbfeidaaOpens
namespace Go.Abs
open Go

theorem told_0 {f : List api_Jump} (h : (told f).2 = 0) : mayB f = true ∧ told f = (f, 0) := by
  unfold told at h ⊢
  cases hf : mayB f
  · simp [hf] at h
  · simp

/-- What is ahead of a place, at places. -/
theorem ahead_val {f : List api_Jump} {t : Int} (h : (ahead f t).2 = 0) : mayB f = true ∧ mayB (ahead f t).1 = true ∧ (∀ p, p < t → val (ahead f t).1 p = val f p) ∧ (∀ p, t ≤ p → t < 1125899906842624 → val (ahead f t).1 p = 0) := by
  unfold ahead at h ⊢
  cases hf : mayB f
  · simp [hf] at h
  · simp only [hf, if_true] at h ⊢
    by_cases ht : 1125899906842624 ≤ t
    · simp only [ht, if_true]
      exact ⟨trivial, hf, fun _ _ => trivial, fun p _ h => by omega⟩
    · simp only [ht, if_false] at h ⊢
      obtain ⟨h1, h2⟩ := told_0 h
      rw [h2]
      refine ⟨trivial, h1, fun p hp => ?_, fun p hp _ => ?_⟩
      · rw [val_fore (may_iff.1 hf).2 hp]
        unfold aheadL
        rw [val_append]
        split
        · simp [val]
        · rw [val_cons, val_nil]; simp; omega
      · unfold aheadL
        rw [val_append, val_all (fun j hj => by have := fore_lt j hj; omega)]
        split
        · rename_i h0; rw [h0]; simp [val]
        · rw [val_cons, val_nil, if_pos (show (⟨t, -nets (fore t f)⟩ : api_Jump).At ≤ p from hp)]; simp; omega

theorem rest_val {f : List api_Jump} {t : Int} (h : (rest f t).2 = 0) (h0 : 0 ≤ t) (h1 : t < 1125899906842624) : mayB f = true ∧ mayB (rest f t).1 = true ∧ (∀ p, t ≤ p → val (rest f t).1 p = val f p) ∧ (∀ p, p < t → -1 ≤ p → val (rest f t).1 p = val f (t - 1)) := by
  unfold rest at h ⊢
  cases hf : mayB f
  · simp [hf] at h
  · have ht : ¬ 1125899906842624 ≤ t := by omega
    have ht' : ¬ t ≤ -1 := by omega
    simp only [hf, if_true, ht, ht', if_false] at h ⊢
    obtain ⟨e1, e2⟩ := told_0 h
    rw [e2]
    have hr := (may_iff.1 hf).2
    refine ⟨trivial, e1, fun p hp => ?_, fun p hp hp' => ?_⟩
    · rw [val_aft hr hp]
      unfold restL
      rw [val_append]
      congr 1
      split
      · rename_i h0; rw [h0]; rfl
      · rw [val_cons, val_nil, if_pos (show (⟨-1, nets (fore t f)⟩ : api_Jump).At ≤ p from by show (-1 : Int) ≤ p; omega)]; simp
    · unfold restL
      rw [val_append, val_above (f := aft t f) (fun j hj => by have := aft_ge hr j hj; omega), ← nets_fore hr]
      split
      · rename_i h0; rw [h0]; rfl
      · rw [val_cons, val_nil, if_pos (show (⟨-1, nets (fore t f)⟩ : api_Jump).At ≤ p from hp')]; simp

theorem pure_StepSides (l0 : (List api_Jump)) (m0 : ∀ a ∈ l0, ok_api_Jump a) (y0 : List.length l0 * 16 ≤ 140737488351232) (a1 : Int) (w1 : in64 a1) (a2 : Int) (w2 : in64 a2) : s_law09_StepSides l0 a1 a2 = some true := by
  unfold s_law09_StepSides law09_StepSides_j1
  rw [ahead_eq, rest_eq]
  simp only [Option.bind_some, live_eq, at_eq]
  have hA := @ahead_val l0 a1
  have hR := @rest_val l0 a1
  generalize ahead l0 a1 = A at hA ⊢
  generalize rest l0 a1 = R at hR ⊢
  have second : ∀ (Z : Option Bool), Z = some true → cond (((decide (R.2 = (0 : Int))) && (decide ((0 : Int) ≤ a1))) && (decide (a1 < (1125899906842624 : Int))))
      ((gcall (decide (a1 ≤ a2)) (some (if mayB R.1 = true then val R.1 a2 else 0))).bind fun x19 =>
      (gcall (decide (a1 ≤ a2)) (some (if mayB l0 = true then val l0 a2 else 0))).bind fun x22 =>
      (gcall (((decide (a2 < a1)) && (decide ((-1 : Int) ≤ a2))) && (!((decide (a1 ≤ a2)) && (!decide (x19 = x22))))) (some (if mayB R.1 = true then val R.1 a2 else 0))).bind fun x25 =>
      (gcall (((decide (a2 < a1)) && (decide ((-1 : Int) ≤ a2))) && (!((decide (a1 ≤ a2)) && (!decide (x19 = x22))))) (some (if mayB l0 = true then val l0 (IntKind.i64.wrap (a1 - 1)) else 0))).bind fun x28 =>
      cond (((decide (a1 ≤ a2)) && (!decide (x19 = x22))) || (((decide (a2 < a1)) && (decide ((-1 : Int) ≤ a2))) && (!decide (x25 = x28))))
      (some false)
      Z) Z = some true := by
    intro Z hZ
    by_cases e : R.2 = 0 ∧ 0 ≤ a1 ∧ a1 < 1125899906842624
    · obtain ⟨f1, f2, f3, f4⟩ := hR e.1 e.2.1 e.2.2
      have hw : IntKind.i64.wrap (a1 - 1) = a1 - 1 := wrap_in (by omega) (by omega)
      by_cases h : a1 ≤ a2
      · have h' : ¬ a2 < a1 := by omega
        simp [e.1, e.2.1, e.2.2, h, h', gcall, f1, f2, f3 a2 h, hZ]
      · have h' : a2 < a1 := by omega
        by_cases hm : -1 ≤ a2
        · simp [e.1, e.2.1, e.2.2, h, h', hm, gcall, f1, f2, f4 a2 h' hm, hw, hZ]
        · simp [e.1, e.2.1, e.2.2, h, h', hm, gcall, hZ]
    · have : (((decide (R.2 = (0 : Int))) && (decide ((0 : Int) ≤ a1))) && (decide (a1 < (1125899906842624 : Int)))) = false := by
        rw [Bool.eq_false_iff]; intro hc; apply e; simpa [and_assoc] using hc
      rw [this, cond_false]; exact hZ
  by_cases e : A.2 = 0
  · obtain ⟨f1, f2, f3, f4⟩ := hA e
    by_cases h : a2 < a1
    · have h' : ¬ a1 ≤ a2 := by omega
      have := second _ rfl
      simpa [e, h, h', gcall, f1, f2, f3 a2 h] using this
    · have h' : a1 ≤ a2 := by omega
      have := second _ rfl
      by_cases hr : 0 ≤ a1 ∧ a1 < 1125899906842624
      · simpa [e, h, h', hr.1, hr.2, gcall, f1, f2, f4 a2 h' hr.2] using this
      · by_cases h1 : 0 ≤ a1
        · have h2 : ¬ a1 < 1125899906842624 := fun h2 => hr ⟨h1, h2⟩
          simp [e, h, h', h1, h2, gcall]
        · simp [e, h, h', h1, gcall]
  · have := second _ rfl
    simpa [e, gcall] using this

end Go.Abs
