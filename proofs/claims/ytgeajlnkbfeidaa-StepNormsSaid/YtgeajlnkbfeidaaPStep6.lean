/- Plain laws of the step functions: what is from a place on. -/
import Derived.Test.YtgeajlnkbfeidaaPStep5
namespace Go.Abs
open Go

theorem rest_fold {t : Int} (f : List api_Jump) : ∀ (l v : Int) (k : Nat), Rise l f → v ≤ 1048576 * (2048 - f.length) → -(1048576 * (2048 - f.length)) ≤ v → f.length ≤ 1024 →
    foldE (fun (s : Int × Nat) (j : api_Jump) => some (if t ≤ j.At then .inr (s.1, ((s.2 : Nat) : Int)) else .inl (IntKind.i64.wrap (s.1 + j.Net), s.2 + 1))) (fun s => (s.1, ((s.2 : Nat) : Int))) (v, k) f = some (v + nets (fore t f), ((k + (fore t f).length : Nat) : Int)) := by
  induction f with
  | nil => intro l v k _ _ _ _; simp [foldE, fore, nets]
  | cons j r ih =>
    intro l v k h h1 h2 hl
    simp only [List.length_cons] at h1 h2 hl
    have hj1 := h.1
    by_cases hj : t ≤ j.At
    · rw [foldE_last (x := (v, ((k : Nat) : Int))) (by simp [hj])]
      simp [fore, hj, nets]
    · have hw : IntKind.i64.wrap (v + j.Net) = v + j.Net := wrap_in (by omega) (by omega)
      rw [foldE_next (s' := (v + j.Net, k + 1)) (by simp [hj, hw])]
      rw [ih j.At (v + j.Net) (k + 1) h.2 (by omega) (by omega) (by omega)]
      have : fore t (j :: r) = j :: fore t r := by simp [fore, hj]
      rw [this, nets_cons, List.length_cons]
      congr 2
      · omega
      · congr 1; omega

def restL (t : Int) (f : List api_Jump) : List api_Jump := (if nets (fore t f) = 0 then [] else [⟨-1, nets (fore t f)⟩]) ++ aft t f

def rest (f : List api_Jump) (t : Int) : List api_Jump × Int :=
  if mayB f then (if 1125899906842624 ≤ t then ([], 0) else if t ≤ -1 then (f, 0) else told (restL t f)) else ([], 2)

theorem drop_fore (t : Int) (f : List api_Jump) : List.drop (fore t f).length f = aft t f := by
  rw [show List.drop (fore t f).length f = List.drop (fore t f).length (fore t f ++ aft t f) by rw [fore_aft]]
  exact List.drop_left

theorem rest_eq (f : List api_Jump) (t : Int) : s_step_Rest f t = some (rest f t) := by
  unfold s_step_Rest rest
  rw [may_eq]
  simp only [Option.bind_some]
  cases h : mayB f
  · simp
  · obtain ⟨hl, hr⟩ := may_iff.1 h
    simp only [Bool.not_true, cond_false, if_true]
    by_cases ht : 1125899906842624 ≤ t
    · simp [ht]
    · rw [decide_eq_false ht, cond_false, if_neg ht]
      by_cases ht' : t ≤ -1
      · simp [ht', clone_eq hl]
      · rw [decide_eq_false ht', cond_false, if_neg ht']
        unfold step_Rest_h3
        have key := lp_listI0 (l := f) (body := fun s : Int × Int => step_Rest_l3 f t s.1 s.2) (fun (s : Int × Nat) i => (s.1, i)) _ _ (fun i s => s.2 = i)
          (fun i a s hi ha => by
            obtain ⟨d1, d2, d3, d4⟩ := idx ha (by omega)
            have hb : step_Rest_l3 f t s.1 i = some (if t ≤ a.At then .inr (s.1, ((s.2 : Nat) : Int)) else .inl (IntKind.i64.wrap (s.1 + a.Net), ((i + 1 : Nat) : Int))) := by
              simp only [step_Rest_l3, d1, Bool.true_and, d3, d4]
              rw [asrt_pos (fun _ => d2), asrt_pos d2, hi]
              by_cases h : t ≤ a.At
              · have : decide (a.At < t) = false := by simp; omega
                simp [h, this]
              · have : decide (a.At < t) = true := by simp; omega
                simp [h, this]
            by_cases hh : t ≤ a.At
            · refine ⟨fun s' hs => by simp [hh] at hs, fun x hs => ?_⟩
              simp [hh] at hs; subst hs
              show step_Rest_l3 f t s.1 i = _
              rw [hb, if_pos hh]
            · refine ⟨fun s' hs => ?_, fun x hs => by simp [hh] at hs⟩
              simp [hh] at hs; subst hs
              refine ⟨by simp [hi], ?_⟩
              show step_Rest_l3 f t s.1 i = _
              rw [hb, if_neg hh])
          (fun s hi => by
            show step_Rest_l3 f t s.1 (f.length : Nat) = _
            simp only [step_Rest_l3, idx_end, Bool.false_and, cond_false]
            rw [asrt_pos (fun h => by cases h), hi]) (s := (0, 0)) rfl (rest_fold (t := t) f (-2) 0 0 hr (by omega) (by omega) hl)
        rw [key]
        have hlen := fore_len t f
        have hal : (aft t f).length ≤ f.length := by
          have := congrArg List.length (fore_aft t f)
          simp only [List.length_append] at this
          omega
        have hto : ∀ n : Nat, Int.toNat (n : Int) = n := fun n => Int.toNat_natCast n
        simp only [Option.bind_some, Nat.zero_add, Int.zero_add, step_Rest_j1, step_Rest_j2, restL, hto, drop_fore, told_eq']
        by_cases hv : nets (fore t f) = 0
        · simp only [hv, decide_true, Bool.not_true, cond_false, if_true, List.nil_append]
          rw [asrt_pos ⟨by omega, by omega⟩, asrt_pos (by simp only [List.length_nil]; omega)]
        · simp only [hv, decide_false, Bool.not_false, cond_true, if_false]
          rw [asrt_pos (by simp), asrt_pos ⟨by omega, by omega⟩, asrt_pos (by simp only [List.length_cons, List.length_nil]; omega)]

end Go.Abs
