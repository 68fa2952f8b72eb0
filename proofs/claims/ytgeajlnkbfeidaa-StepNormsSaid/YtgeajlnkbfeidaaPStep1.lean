/- Plain laws of the step functions: which lists are functions, and their values. -/
import Derived.Test.YtgeajlnkbfeidaaPBase
import Derived.Test.YtgeajlnkbfeidaaDefs
namespace Go.Abs
open Go

def fairB (n : Int) : Bool := decide (n ≤ 1048576) && decide (-1048576 ≤ n)
theorem fair_eq (n : Int) : s_step_fair n = some (fairB n) := rfl

/-- May the jump not follow? -/
def badJ (last : Int) (j : api_Jump) : Bool := decide (j.At ≤ last) || decide (1125899906842624 ≤ j.At) || decide (j.Net = 0) || !fairB j.Net

def chk (last : Int) : List api_Jump → Bool
  | [] => true
  | j :: r => !badJ last j && chk j.At r

def mayB (f : List api_Jump) : Bool := decide (f.length ≤ 1024) && chk (-2) f

theorem May_body {f : List api_Jump} {i : Nat} {a : api_Jump} {last : Int} (ha : f[i]? = some a) (hl : f.length < 4611686018427387904) :
    step_May_l2 f (f.length : Nat) last i = some (if badJ last a then .inr (.inr false) else .inl (a.At, ((i + 1 : Nat) : Int))) := by
  obtain ⟨d1, d2, d3, d4⟩ := idx ha hl
  simp only [step_May_l2, d1, cond_true, asrt_pos d2, d3, d4, fair_eq]
  unfold badJ
  cases h : (decide (a.At ≤ last) || decide (1125899906842624 ≤ a.At) || decide (a.Net = 0)) <;> cases h2 : fairB a.Net <;> simp [gcall]

theorem chk_fold : ∀ (f : List api_Jump) (last : Int), foldE (fun last (j : api_Jump) => some (if badJ last j then .inr (.inr false) else .inl j.At)) (fun _ => (.inl () : Unit ⊕ Bool)) last f = some (if chk last f then .inl () else .inr false)
  | [], last => by simp [foldE, chk]
  | j :: r, last => by
    cases h : badJ last j
    · rw [foldE_next (s' := j.At) (by simp [h])]
      rw [chk_fold r j.At]
      simp [chk, h]
    · rw [foldE_last (x := .inr false) (by simp [h])]
      simp [chk, h]

theorem may_eq (f : List api_Jump) : s_step_May f = some (mayB f) := by
  unfold s_step_May mayB
  by_cases hl : f.length ≤ 1024
  · have h1 : decide ((1024 : Int) < ((f.length : Nat) : Int)) = false := by simp; omega
    rw [h1, cond_false]
    unfold step_May_h2
    have key := lp_list0 (l := f) (body := fun s : Int × Int => step_May_l2 f (f.length : Nat) s.1 s.2) (fun last i => (last, i)) _ _
      (fun i a s ha => by
        constructor
        · intro s' hs
          show step_May_l2 f (f.length : Nat) s i = _
          rw [May_body ha (by omega)]
          split at hs <;> simp_all
        · intro x hs
          show step_May_l2 f (f.length : Nat) s i = _
          rw [May_body ha (by omega)]
          split at hs <;> simp_all)
      (fun s => by show step_May_l2 f (f.length : Nat) s (f.length : Nat) = _; simp only [step_May_l2, idx_end, cond_false]) (chk_fold f (-2))
    rw [key]
    cases h : chk (-2) f <;> simp [step_May_j1, hl]
  · have h1 : decide ((1024 : Int) < ((f.length : Nat) : Int)) = true := by simp; omega
    rw [h1, cond_true]
    simp [hl]

/-! ### What a function is -/

theorem fairB_iff {n : Int} : fairB n = true ↔ n ≤ 1048576 ∧ -1048576 ≤ n := by simp [fairB]

theorem badJ_false {last : Int} {j : api_Jump} : badJ last j = false ↔ last < j.At ∧ j.At < 1125899906842624 ∧ j.Net ≠ 0 ∧ j.Net ≤ 1048576 ∧ -1048576 ≤ j.Net := by
  simp [badJ, fairB]
  omega

/-- Jumps that rise, above a place. -/
def Rise (last : Int) : List api_Jump → Prop
  | [] => True
  | j :: r => (last < j.At ∧ j.At < 1125899906842624 ∧ j.Net ≠ 0 ∧ j.Net ≤ 1048576 ∧ -1048576 ≤ j.Net) ∧ Rise j.At r

theorem chk_iff : ∀ {f : List api_Jump} {last : Int}, chk last f = true ↔ Rise last f
  | [], last => by simp [chk, Rise]
  | j :: r, last => by simp [chk, Rise, badJ_false, chk_iff]

theorem may_iff {f : List api_Jump} : mayB f = true ↔ f.length ≤ 1024 ∧ Rise (-2) f := by simp [mayB, chk_iff]

theorem Rise.above : ∀ {f : List api_Jump} {last : Int}, Rise last f → ∀ j ∈ f, last < j.At ∧ j.At < 1125899906842624 ∧ j.Net ≠ 0 ∧ j.Net ≤ 1048576 ∧ -1048576 ≤ j.Net
  | [], _, _, j, hj => by simp at hj
  | a :: r, last, h, j, hj => by
    rcases List.mem_cons.1 hj with rfl | hj
    · exact h.1
    · have := h.2.above j hj
      have h1 := h.1.1
      exact ⟨by omega, this.2⟩

/-- The value at a place. -/
def val (f : List api_Jump) (t : Int) : Int := (f.map fun j => if j.At ≤ t then j.Net else 0).sum

theorem val_nil (t : Int) : val [] t = 0 := rfl
theorem val_cons (j : api_Jump) (r : List api_Jump) (t : Int) : val (j :: r) t = (if j.At ≤ t then j.Net else 0) + val r t := by simp [val]
theorem val_append (f g : List api_Jump) (t : Int) : val (f ++ g) t = val f t + val g t := by simp [val]

theorem val_bound : ∀ {f : List api_Jump} {b : Int} (t : Int), 0 ≤ b → (∀ j ∈ f, j.Net ≤ b ∧ -b ≤ j.Net) → val f t ≤ b * f.length ∧ -(b * f.length) ≤ val f t
  | [], b, t, _, _ => by simp [val]
  | j :: r, b, t, hb, h => by
    obtain ⟨h1, h2⟩ := val_bound t hb (fun k hk => h k (List.mem_cons_of_mem _ hk))
    have h3 := h j (List.mem_cons_self ..)
    rw [val_cons]
    simp only [List.length_cons, Int.natCast_add, Int.natCast_one, Int.mul_add, Int.mul_one]
    split <;> omega

theorem val_above {f : List api_Jump} {t : Int} (h : ∀ j ∈ f, t < j.At) : val f t = 0 := by
  induction f with
  | nil => rfl
  | cons j r ih =>
    rw [val_cons, ih (fun k hk => h k (List.mem_cons_of_mem _ hk))]
    have := h j (List.mem_cons_self ..)
    rw [if_neg (by omega)]; rfl

theorem At_body {f : List api_Jump} {i : Nat} {a : api_Jump} {t v : Int} (ha : f[i]? = some a) (hl : f.length < 4611686018427387904) :
    step_At_l2 t f (f.length : Nat) v i = some (if t < a.At then .inr v else .inl (IntKind.i64.wrap (v + a.Net), ((i + 1 : Nat) : Int))) := by
  obtain ⟨d1, d2, d3, d4⟩ := idx ha hl
  simp only [step_At_l2, d1, cond_true, asrt_pos d2, d3, d4]
  by_cases h : t < a.At <;> simp [h]

theorem at_fold {t : Int} (f : List api_Jump) : ∀ (last v : Int), Rise last f → v ≤ 1048576 * (2048 - f.length) → -(1048576 * (2048 - f.length)) ≤ v → f.length ≤ 1024 →
    foldE (fun v (j : api_Jump) => some (if t < j.At then .inr v else .inl (IntKind.i64.wrap (v + j.Net)))) (fun v => (v : Int)) v f = some (v + val f t) := by
  induction f with
  | nil => intro last v _ _ _ _; simp [foldE, val]
  | cons j r ih =>
    intro last v h h1 h2 hl
    simp only [List.length_cons] at h1 h2 hl
    by_cases hj : t < j.At
    · rw [foldE_last (x := v) (by simp [hj])]
      rw [val_above (fun k hk => by
        rcases List.mem_cons.1 hk with rfl | hk
        · exact hj
        · have := (h.2.above k hk).1; omega)]
      simp
    · have hj1 := h.1
      have hw : IntKind.i64.wrap (v + j.Net) = v + j.Net := wrap_in (by omega) (by omega)
      rw [foldE_next (s' := v + j.Net) (by simp [hj, hw])]
      rw [ih j.At (v + j.Net) h.2 (by omega) (by omega) (by omega), val_cons, if_pos (by omega)]
      congr 1
      omega

theorem at_eq (f : List api_Jump) (t : Int) : s_step_At f t = some (if mayB f then val f t else 0) := by
  unfold s_step_At
  rw [may_eq]
  simp only [Option.bind_some]
  cases h : mayB f
  · simp
  · obtain ⟨hl, hr⟩ := may_iff.1 h
    simp only [Bool.not_true, cond_false, if_true]
    unfold step_At_h2
    have key := lp_list0 (l := f) (body := fun s : Int × Int => step_At_l2 t f (f.length : Nat) s.1 s.2) (fun v i => (v, i)) _ _
      (fun i a s ha => by
        constructor
        · intro s' hs
          show step_At_l2 t f (f.length : Nat) s i = _
          rw [At_body ha (by omega)]
          split at hs <;> simp_all
        · intro x hs
          show step_At_l2 t f (f.length : Nat) s i = _
          rw [At_body ha (by omega)]
          split at hs <;> simp_all)
      (fun s => by show step_At_l2 t f (f.length : Nat) s (f.length : Nat) = _; simp only [step_At_l2, idx_end, cond_false]) (at_fold (t := t) f (-2) 0 hr (by omega) (by omega) hl)
    rw [key]
    simp [step_At_j1]

theorem told_eq (f : List api_Jump) : s_step_told f = some (if mayB f then (f, 0) else ([], 7)) := by
  unfold s_step_told
  rw [may_eq]
  cases h : mayB f <;> simp

end Go.Abs
