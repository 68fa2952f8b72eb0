/- Plain laws of the step functions: what is ahead of a place, and what is from it on. -/
import Derived.Test.YtgeajlnkbfeidaaPStep4
namespace Go.Abs
open Go

def nets (f : List api_Jump) : Int := (f.map api_Jump.Net).sum

theorem nets_cons (j : api_Jump) (f : List api_Jump) : nets (j :: f) = j.Net + nets f := by simp [nets]

/-- What is ahead of a place, and what is from it on. -/
def fore (t : Int) : List api_Jump → List api_Jump
  | [] => []
  | j :: r => if t ≤ j.At then [] else j :: fore t r
def aft (t : Int) : List api_Jump → List api_Jump
  | [] => []
  | j :: r => if t ≤ j.At then j :: r else aft t r

theorem fore_aft (t : Int) : ∀ f : List api_Jump, fore t f ++ aft t f = f
  | [] => rfl
  | j :: r => by
    unfold fore aft
    split
    · rfl
    · simp [fore_aft t r]

theorem fore_lt {t : Int} : ∀ {f : List api_Jump}, ∀ j ∈ fore t f, j.At < t
  | [], j, h => by simp [fore] at h
  | k :: r, j, h => by
    unfold fore at h
    split at h
    · simp at h
    · rcases List.mem_cons.1 h with rfl | h
      · omega
      · exact fore_lt j h

theorem aft_ge {t l : Int} : ∀ {f : List api_Jump}, Rise l f → ∀ j ∈ aft t f, t ≤ j.At
  | [], _, j, h => by simp [aft] at h
  | k :: r, hr, j, h => by
    unfold aft at h
    split at h
    · rcases List.mem_cons.1 h with rfl | h
      · assumption
      · have := (hr.2.above j h).1; omega
    · exact aft_ge hr.2 j h

theorem val_all {f : List api_Jump} {t : Int} (h : ∀ j ∈ f, j.At ≤ t) : val f t = nets f := by
  induction f with
  | nil => rfl
  | cons j r ih => rw [val_cons, nets_cons, if_pos (h j (List.mem_cons_self ..)), ih fun k hk => h k (List.mem_cons_of_mem _ hk)]

theorem fore_len (t : Int) : ∀ f : List api_Jump, (fore t f).length ≤ f.length
  | [] => by simp [fore]
  | j :: r => by
    unfold fore
    split
    · simp
    · simpa using fore_len t r

/-- Values ahead of the place come of what is ahead of it. -/
theorem val_fore {l t p : Int} {f : List api_Jump} (hf : Rise l f) (hp : p < t) : val f p = val (fore t f) p := by
  conv => lhs; rw [← fore_aft t f]
  rw [val_append, val_above (f := aft t f) (fun j hj => by have := aft_ge hf j hj; omega)]
  omega

theorem val_aft {l t p : Int} {f : List api_Jump} (hf : Rise l f) (hp : t ≤ p) : val f p = nets (fore t f) + val (aft t f) p := by
  conv => lhs; rw [← fore_aft t f]
  rw [val_append, val_all (fun j hj => by have := fore_lt j hj; omega)]

theorem nets_fore {l t : Int} {f : List api_Jump} (hf : Rise l f) : nets (fore t f) = val f (t - 1) := by
  rw [val_fore hf (p := t - 1) (t := t) (by omega), val_all (fun j hj => by have := fore_lt j hj; omega)]

/-! ### Ahead -/

theorem ahead_fold {t : Int} (f : List api_Jump) : ∀ (l v : Int) (out : List api_Jump), Rise l f → v ≤ 1048576 * (2048 - f.length) → -(1048576 * (2048 - f.length)) ≤ v → f.length ≤ 1024 →
    foldE (fun (s : List api_Jump × Int) (j : api_Jump) => some (if t ≤ j.At then .inr s else .inl (s.1 ++ [j], IntKind.i64.wrap (s.2 + j.Net)))) (fun s => s) (out, v) f = some (out ++ fore t f, v + nets (fore t f)) := by
  induction f with
  | nil => intro l v out _ _ _ _; simp [foldE, fore, nets]
  | cons j r ih =>
    intro l v out h h1 h2 hl
    simp only [List.length_cons] at h1 h2 hl
    have hj1 := h.1
    by_cases hj : t ≤ j.At
    · rw [foldE_last (x := (out, v)) (by simp [hj])]
      simp [fore, hj, nets]
    · have hw : IntKind.i64.wrap (v + j.Net) = v + j.Net := wrap_in (by omega) (by omega)
      rw [foldE_next (s' := (out ++ [j], v + j.Net)) (by simp [hj, hw])]
      rw [ih j.At (v + j.Net) (out ++ [j]) h.2 (by omega) (by omega) (by omega)]
      have : fore t (j :: r) = j :: fore t r := by simp [fore, hj]
      rw [this, nets_cons]
      simp [Int.add_assoc]

def aheadL (t : Int) (f : List api_Jump) : List api_Jump := fore t f ++ (if nets (fore t f) = 0 then [] else [⟨t, -nets (fore t f)⟩])

def ahead (f : List api_Jump) (t : Int) : List api_Jump × Int :=
  if mayB f then (if 1125899906842624 ≤ t then (f, 0) else told (aheadL t f)) else ([], 2)

theorem clone_eq {f : List api_Jump} (hl : f.length ≤ 1024) : s_slices_Clone_api_Jump_api_Jump f = some f := by
  unfold s_slices_Clone_api_Jump_api_Jump
  exact asrt_pos ⟨by omega, by omega⟩

theorem fore_bound {f : List api_Jump} (hf : mayB f = true) (t : Int) : nets (fore t f) ≤ 1073741824 ∧ -1073741824 ≤ nets (fore t f) := by
  rw [nets_fore (may_iff.1 hf).2]
  exact may_val_bound hf _

theorem ahead_eq (f : List api_Jump) (t : Int) : s_step_Ahead f t = some (ahead f t) := by
  unfold s_step_Ahead ahead
  rw [may_eq]
  simp only [Option.bind_some]
  cases h : mayB f
  · simp
  · obtain ⟨hl, hr⟩ := may_iff.1 h
    simp only [Bool.not_true, cond_false, if_true]
    by_cases ht : 1125899906842624 ≤ t
    · simp [ht, clone_eq hl]
    · rw [decide_eq_false ht, cond_false, if_neg ht]
      unfold step_Ahead_h3
      have key := lp_listI0 (l := f) (body := fun s : List api_Jump × Int × Int => step_Ahead_l3 t f (f.length : Nat) s.1 s.2.1 s.2.2) (fun (s : List api_Jump × Int) i => (s.1, s.2, i)) _ _ (fun i s => s.1.length = i)
        (fun i a s hi ha => by
          obtain ⟨d1, d2, d3, d4⟩ := idx ha (by omega)
          have hlt : i < f.length := (List.getElem?_eq_some_iff.1 ha).1
          have hb : step_Ahead_l3 t f (f.length : Nat) s.1 s.2 i = some (if t ≤ a.At then .inr s else .inl (s.1 ++ [a], IntKind.i64.wrap (s.2 + a.Net), ((i + 1 : Nat) : Int))) := by
            simp only [step_Ahead_l3, d1, cond_true, asrt_pos d2, d3, d4]
            rw [asrt_pos (by simp only [List.length_cons, List.length_nil]; omega)]
            by_cases h : t ≤ a.At <;> simp [h]
          by_cases hh : t ≤ a.At
          · refine ⟨fun s' hs => by simp [hh] at hs, fun x hs => ?_⟩
            simp [hh] at hs; subst hs
            show step_Ahead_l3 t f (f.length : Nat) s.1 s.2 i = _
            rw [hb, if_pos hh]
          · refine ⟨fun s' hs => ?_, fun x hs => by simp [hh] at hs⟩
            simp [hh] at hs; subst hs
            refine ⟨by simp [hi], ?_⟩
            show step_Ahead_l3 t f (f.length : Nat) s.1 s.2 i = _
            rw [hb, if_neg hh])
        (fun s _ => by show step_Ahead_l3 t f (f.length : Nat) s.1 s.2 (f.length : Nat) = _; simp only [step_Ahead_l3, idx_end, cond_false]) (s := ([], 0)) rfl (ahead_fold (t := t) f (-2) 0 [] hr (by omega) (by omega) hl)
      rw [key]
      have hb := fore_bound h t
      have hlen := fore_len t f
      have hw : IntKind.i64.wrap (0 - nets (fore t f)) = -nets (fore t f) := by rw [wrap_in (by omega) (by omega)]; omega
      simp only [Option.bind_some, List.nil_append, Int.zero_add, step_Ahead_j1, step_Ahead_j2, aheadL, hw, told_eq']
      by_cases hv : nets (fore t f) = 0
      · simp [hv]
      · rw [asrt_pos (by simp only [List.length_cons, List.length_nil]; omega)]
        simp [hv]

end Go.Abs
