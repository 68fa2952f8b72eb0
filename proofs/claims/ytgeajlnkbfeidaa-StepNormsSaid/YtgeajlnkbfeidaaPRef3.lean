/- Plain laws of layer 9: the least value, and the document's own sums, products and cuts. -/
import Derived.Test.YtgeajlnkbfeidaaPRef2
namespace Go.Abs
open Go

/-! ### The least value -/

def mn (a b : Int) : Int := if b < a then b else a
def parts (v : Int) : List api_Jump → List Int
  | [] => []
  | j :: r => (v + j.Net) :: parts (v + j.Net) r
def leastL (f : List api_Jump) : Int := (f.map fun j => val f j.At).foldl mn (val f (-1))

theorem parts_eq : ∀ {f : List api_Jump} {l v : Int}, Rise l f → parts v f = f.map fun j => v + val f j.At
  | [], _, _, _ => rfl
  | j :: r, l, v, h => by
    simp only [parts, List.map_cons]
    rw [parts_eq h.2, val_cons, if_pos (Int.le_refl _), h.2.val0 (Int.le_refl _), Int.add_zero]
    congr 1
    apply List.map_congr_left
    intro k hk
    have := (h.2.above k hk).1
    rw [val_cons, if_pos (by omega)]; omega

theorem val_first {j : api_Jump} {r : List api_Jump} (h : Rise (-2) (j :: r)) : val (j :: r) (-1) = if j.At = -1 then j.Net else 0 := by
  have := h.1.1
  by_cases e : j.At = -1
  · rw [if_pos e, val_cons, if_pos (by omega), h.2.val0 (by omega)]; omega
  · rw [if_neg e, val_above]
    intro k hk
    rcases List.mem_cons.1 hk with rfl | hk
    · omega
    · have := (h.2.above k hk).1; omega

theorem least_loop {f : List api_Jump} (hf : mayB f = true) (m : Int) (hm : -1125899906842624 ≤ m ∧ m ≤ 1125899906842624) : step_Least_h3 0 m f (f.length : Nat) 0 = some ((f.map fun j => val f j.At).foldl mn m) := by
  obtain ⟨hl, hr⟩ := may_iff.1 hf
  unfold step_Least_h3
  rw [lp_suf0 (l := f) (body := fun s : Int × Int × Int => step_Least_l3 f (f.length : Nat) s.1 s.2.1 s.2.2) (fun (s : Int × Int) i => (s.1, s.2, i)) (fun s r => (parts s.1 r).foldl mn s.2)
    (fun s r => (∀ j ∈ r, j.Net ≤ 1048576 ∧ -1048576 ≤ j.Net) ∧ r.length ≤ 1024 ∧ s.1 ≤ 1048576 * (1024 - r.length) ∧ -(1048576 * (1024 - r.length)) ≤ s.1) (0, m) ?_ ?_ ?_]
  · simp only [Option.bind_some, step_Least_j2, parts_eq hr, Int.zero_add]
  · rintro i a r ⟨v, m⟩ ha ⟨h1, h2, h3, h4⟩
    obtain ⟨d1, d2, d3, d4⟩ := idx ha (by omega)
    have hj := h1 a (List.mem_cons_self ..)
    simp only [List.length_cons] at h2 h3 h4
    have hw : IntKind.i64.wrap (v + a.Net) = v + a.Net := wrap_in (by omega) (by omega)
    left
    refine ⟨(v + a.Net, mn m (v + a.Net)), ?_, ⟨fun j hj => h1 j (List.mem_cons_of_mem _ hj), by omega, by simp only; omega, by simp only; omega⟩, rfl⟩
    show step_Least_l3 f (f.length : Nat) v m i = _
    simp only [step_Least_l3, d1, cond_true, asrt_pos d2, d3, d4, hw, mn]
  · rintro ⟨v, m⟩ _
    show step_Least_l3 f (f.length : Nat) v m (f.length : Nat) = _
    simp only [step_Least_l3, idx_end, cond_false, parts, List.foldl_nil]
  · exact ⟨may_nets hf, hl, by simp only; omega, by simp only; omega⟩

theorem least_eq (f : List api_Jump) : s_step_Least f = some (if mayB f then leastL f else 0) := by
  unfold s_step_Least
  rw [may_eq]
  cases h : mayB f
  · simp
  · cases f with
    | nil => simp [leastL, val]
    | cons j r =>
      obtain ⟨hl, hr⟩ := may_iff.1 h
      have hne : decide (((List.length (j :: r) : Nat) : Int) = 0) = false := by simp; omega
      simp only [Option.bind_some, Bool.not_true, Bool.false_or, hne, cond_false, asrt_pos at_0, getD_0, if_true]
      have hj := hr.1
      unfold leastL
      rw [val_first hr]
      by_cases e : j.At = -1
      · simp only [e, decide_true, cond_true, if_true, step_Least_j1]
        exact least_loop h j.Net (by omega)
      · simp only [e, decide_false, cond_false, if_false, step_Least_j1]
        exact least_loop h 0 (by omega)

theorem refLeast_eq (f : List api_Jump) : s_ref09_Least f = some (if mayB f then leastL f else 0) := by
  unfold s_ref09_Least
  rw [refMay_eq]
  cases h : mayB f
  · simp
  · obtain ⟨hl, hr⟩ := may_iff.1 h
    simp only [Option.bind_some, Bool.not_true, cond_false, refValue_may h, if_true, ref09_Least_h2]
    rw [lp_suf0 (l := f) (body := fun s : Int × Int => ref09_Least_l2 f s.1 s.2) (fun m i => (m, i)) (fun m r => (r.map fun j => val f j.At).foldl mn m) (fun _ _ => True) (val f (-1)) ?_ ?_ trivial]
    · simp [ref09_Least_j1, leastL]
    · rintro i a r m ha _
      obtain ⟨d1, d2, d3, d4⟩ := idx ha (by omega)
      left
      refine ⟨mn m (val f a.At), ?_, trivial, rfl⟩
      show ref09_Least_l2 f m i = _
      simp only [ref09_Least_l2, ref09_Least_j3, d1, cond_true, asrt_pos d2, d3, d4, refValue_may h, Option.bind_some, mn]
      by_cases e : val f a.At < m <;> simp [e]
    · intro m _
      show ref09_Least_l2 f m (f.length : Nat) = _
      simp only [ref09_Least_l2, idx_end, cond_false, List.map_nil, List.foldl_nil]

/-! ### Sums and products -/

theorem val_const {s t : Int} (hst : s ≤ t) : ∀ {f : List api_Jump}, (∀ j ∈ f, ¬ (s < j.At ∧ j.At ≤ t)) → val f s = val f t
  | [], _ => rfl
  | j :: r, h => by
    have hj := h j (List.mem_cons_self ..)
    rw [val_cons, val_cons, val_const hst (fun k hk => h k (List.mem_cons_of_mem _ hk))]
    by_cases e : j.At ≤ s
    · rw [if_pos e, if_pos (by omega)]
    · rw [if_neg e, if_neg (by omega)]

theorem may_places {f : List api_Jump} (h : mayB f = true) : ∀ j ∈ f, -2 < j.At ∧ j.At < 1125899906842624 := fun j hj => by have := (may_iff.1 h).2.above j hj; omega

theorem may_m2 {f : List api_Jump} (h : mayB f = true) : val f (-2) = 0 := (may_iff.1 h).2.val0 (Int.le_refl _)

theorem told_places {OP : Int → Int → Int} (h0 : OP 0 0 = 0) {f g : List api_Jump} (hf : mayB f = true) (hg : mayB g = true) :
    toldL 0 ((putL (putL [] f) g).map fun p => (p, OP (val f p) (val g p))) = comb OP f g := by
  refine toldL_is (F := fun p => OP (val f p) (val g p)) (by simp only [may_m2 hf, may_m2 hg, h0]) (putL_inc (putL_inc (ps := []) (show Inc (-2) [] from trivial) (may_places hf)) (may_places hg)) ?_ (comb_up hf hg) (fun t _ _ => comb_val h0 hf hg t)
  intro s t _ hst _ hn
  have e1 : val f s = val f t := val_const hst fun j hj hc => hn j.At (putL_mem.2 (Or.inl (putL_mem.2 (Or.inr ⟨j, hj, rfl⟩)))) hc
  have e2 : val g s = val g t := val_const hst fun j hj hc => hn j.At (putL_mem.2 (Or.inr ⟨j, hj, rfl⟩)) hc
  simp only [e1, e2]

theorem refTwo_eq {OP : Int → Int → Int} {what : Int} (h0 : OP 0 0 = 0)
    (hop : ∀ a b, a ≤ 1073741824 → -1073741824 ≤ a → b ≤ 1073741824 → -1073741824 ≤ b → -2305843009213693952 ≤ OP a b ∧ OP a b ≤ 2305843009213693952)
    (hbody : ∀ (f g : List api_Jump) (ps vs : List Int) (i : Nat) (a : Int), mayB f = true → mayB g = true → ps.length ≤ 1099511627776 → vs.length ≤ 1099511627776 → ps[i]? = some a →
      ref09_Two_l2 f g what ps vs i = some (.inl (vs ++ [OP (val f a) (val g a)], ((i + 1 : Nat) : Int)))) (f g : List api_Jump) :
    s_ref09_Two f g what = some (two OP f g) := by
  unfold s_ref09_Two two
  rw [refMay_eq, refMay_eq]
  simp only [Option.bind_some]
  cases hf : mayB f
  · simp [gcall]
  · cases hg : mayB g
    · simp [gcall]
    · obtain ⟨f1, f2⟩ := may_iff.1 hf
      obtain ⟨g1, g2⟩ := may_iff.1 hg
      simp only [gcall, Bool.not_true, Bool.not_false, cond_true, Option.bind_some, Bool.or_self, cond_false, Bool.and_self, if_true]
      rw [places_eq (may_places hf) (may_places hg) (by omega)]
      have hlen := putL_len (f := g) (ps := putL [] f)
      have hlen2 := putL_len (f := f) (ps := [])
      simp only [List.length_nil] at hlen2
      simp only [Option.bind_some, ref09_Two_h2]
      rw [values_loop (ps := putL (putL [] f) g) (F := fun p => OP (val f p) (val g p)) (body := fun s : List Int × Int => ref09_Two_l2 f g what (putL (putL [] f) g) s.1 s.2) ?_ ?_ (by omega)]
      · simp only [Option.bind_some, ref09_Two_j1]
        rw [refTold_eq (ps := putL (putL [] f) g) (F := fun p => OP (val f p) (val g p)) (by omega) (fun p _ => by
          have := may_val_bound hf p; have := may_val_bound hg p
          exact hop _ _ (by omega) (by omega) (by omega) (by omega)), told_places h0 hf hg]
        rfl
      · intro i a vs ha _ hv
        exact hbody f g _ vs i a hf hg (by omega) hv ha
      · intro vs
        show ref09_Two_l2 f g what _ vs _ = _
        simp only [ref09_Two_l2, idx_end, cond_false]

theorem refTwo_add (f g : List api_Jump) : s_ref09_Two f g 0 = some (two (· + ·) f g) :=
  refTwo_eq rfl (fun a b _ _ _ _ => by show -2305843009213693952 ≤ a + b ∧ a + b ≤ 2305843009213693952; omega) (fun f g ps vs i a hf hg hp hv ha => by
    obtain ⟨d1, d2, d3, d4⟩ := idx ha (by omega)
    have hw : IntKind.i64.wrap (val f a + val g a) = val f a + val g a := by have := may_val_bound hf a; have := may_val_bound hg a; exact wrap_in (by omega) (by omega)
    simp only [ref09_Two_l2, ref09_Two_j3, ref09_Two_j4, d1, cond_true, asrt_pos d2, d3, d4, refValue_may hf, refValue_may hg, Option.bind_some, hw]
    simp
    exact asrt_pos ⟨by omega, by omega⟩) f g

theorem refTwo_mul (f g : List api_Jump) : s_ref09_Two f g 1 = some (two (· * ·) f g) :=
  refTwo_eq rfl (fun a b h1 h2 h3 h4 => by have := mul_bound h1 h2 h3 h4; show -2305843009213693952 ≤ a * b ∧ a * b ≤ 2305843009213693952; omega) (fun f g ps vs i a hf hg hp hv ha => by
    obtain ⟨d1, d2, d3, d4⟩ := idx ha (by omega)
    have b1 := may_val_bound hf a
    have b2 := may_val_bound hg a
    have hm := mul_bound b1.1 b1.2 b2.1 b2.2
    have hw : IntKind.i64.wrap (val f a * val g a) = val f a * val g a := wrap_in (by omega) (by omega)
    simp only [ref09_Two_l2, ref09_Two_j3, ref09_Two_j4, d1, cond_true, asrt_pos d2, d3, d4, refValue_may hf, refValue_may hg, Option.bind_some, hw]
    simp
    exact asrt_pos ⟨by omega, by omega⟩) f g

theorem refTwo_where (f g : List api_Jump) : s_ref09_Two f g 2 = some (two whereOp f g) :=
  refTwo_eq rfl (fun a b h1 h2 h3 h4 => by unfold whereOp; split <;> omega) (fun f g ps vs i a hf hg hp hv ha => by
    obtain ⟨d1, d2, d3, d4⟩ := idx ha (by omega)
    simp only [ref09_Two_l2, ref09_Two_j3, ref09_Two_j4, d1, cond_true, asrt_pos d2, d3, d4, refValue_may hf, refValue_may hg, Option.bind_some, whereOp]
    by_cases e : val g a = 0
    · simp [e]
      exact asrt_pos ⟨by omega, by omega⟩
    · simp [e]
      exact asrt_pos ⟨by omega, by omega⟩) f g

/-! ### The other sign -/

def negL (f : List api_Jump) : List api_Jump := f.map fun j => ⟨j.At, -j.Net⟩

theorem negL_rise : ∀ {f : List api_Jump} {l : Int}, Rise l f → Rise l (negL f)
  | [], _, _ => trivial
  | j :: r, l, h => ⟨⟨h.1.1, h.1.2.1, by simp only; have := h.1; omega, by simp only; have := h.1; omega, by simp only; have := h.1; omega⟩, negL_rise h.2⟩

theorem negL_val : ∀ {f : List api_Jump} {t : Int}, val (negL f) t = -val f t
  | [], _ => rfl
  | j :: r, t => by
    have := negL_val (f := r) (t := t)
    unfold negL at this ⊢
    rw [List.map_cons, val_cons, this, val_cons]
    simp only
    split <;> omega

theorem negL_may {f : List api_Jump} (h : mayB f = true) : mayB (negL f) = true := may_iff.2 ⟨by rw [negL, List.length_map]; exact (may_iff.1 h).1, negL_rise (may_iff.1 h).2⟩

theorem may_nil : mayB [] = true := by decide

theorem neg_is (f : List api_Jump) : two (fun a _ => -a) f [] = if mayB f then (negL f, 0) else ([], 2) := by
  unfold two
  cases h : mayB f
  · simp
  · rw [may_nil, comb_is (h := negL f) (by rfl) h may_nil (may_up (negL_may h)) (fun t _ _ => negL_val)]
    simp [told, negL_may h]

theorem refNeg_eq (f : List api_Jump) : s_ref09_Neg f = some (if mayB f then (negL f, 0) else ([], 2)) := by
  unfold s_ref09_Neg
  rw [refMay_eq]
  cases h : mayB f
  · simp
  · obtain ⟨hl, hr⟩ := may_iff.1 h
    simp only [Option.bind_some, Bool.not_true, cond_false, if_true, ref09_Neg_h2]
    rw [lp_suf0 (l := f) (body := fun s : List api_Jump × Int => ref09_Neg_l2 f s.1 s.2) (fun out i => (out, i)) (fun out r => out ++ negL r) (fun out r => (∀ j ∈ r, j.Net ≤ 1048576 ∧ -1048576 ≤ j.Net) ∧ out.length + r.length ≤ 1024) [] ?_ ?_ ⟨may_nets h, by simpa using hl⟩]
    · simp [ref09_Neg_j1]
    · rintro i a r out ha ⟨h1, h2⟩
      obtain ⟨d1, d2, d3, d4⟩ := idx ha (by omega)
      have hj := h1 a (List.mem_cons_self ..)
      simp only [List.length_cons] at h2
      left
      refine ⟨out ++ [⟨a.At, -a.Net⟩], ?_, ⟨fun j hj => h1 j (List.mem_cons_of_mem _ hj), by simp only [List.length_append, List.length_cons, List.length_nil]; omega⟩, by simp [negL]⟩
      show ref09_Neg_l2 f out i = _
      have hw : IntKind.i64.wrap (0 - a.Net) = -a.Net := by rw [wrap_in (by omega) (by omega)]; omega
      simp only [ref09_Neg_l2, d1, cond_true, asrt_pos d2, d3, d4, hw]
      exact asrt_pos (by simp only [List.length_cons, List.length_nil]; omega)
    · intro out _
      show ref09_Neg_l2 f out _ = _
      simp only [ref09_Neg_l2, idx_end, cond_false]
      simp [negL]

/-! ### What is ahead of a place, and what is from it on -/

theorem up_snoc {t n : Int} (hn : n ≠ 0) (ht : t < 1125899906842624) : ∀ {a : List api_Jump} {l : Int}, Up l a → (∀ j ∈ a, j.At < t) → l < t → Up l (a ++ [⟨t, n⟩])
  | [], _, _, _, h => ⟨⟨h, ht, hn⟩, trivial⟩
  | j :: r, l, h, hb, hl => ⟨h.1, up_snoc hn ht h.2 (fun k hk => hb k (List.mem_cons_of_mem _ hk)) (hb j (List.mem_cons_self ..))⟩

theorem fore_up {t : Int} : ∀ {f : List api_Jump} {l : Int}, Rise l f → Up l (fore t f)
  | [], _, _ => trivial
  | j :: r, l, h => by
    unfold fore
    split
    · trivial
    · exact ⟨⟨h.1.1, h.1.2.1, h.1.2.2.1⟩, fore_up h.2⟩

theorem aft_up {t l' : Int} (hl : l' < t) : ∀ {f : List api_Jump} {l : Int}, Rise l f → Up l' (aft t f)
  | [], _, _ => trivial
  | j :: r, l, h => by
    unfold aft
    split
    · exact (h.restrict (m := l') (by omega)).up
    · exact aft_up hl h.2

theorem aheadL_up {f : List api_Jump} {t : Int} (hf : mayB f = true) (ht : t < 1125899906842624) : Up (-2) (aheadL t f) := by
  have hr := (may_iff.1 hf).2
  unfold aheadL
  split
  · simpa using fore_up hr
  · rename_i hn
    refine up_snoc (by omega) ht (fore_up hr) fore_lt ?_
    cases hfo : fore t f with
    | nil => rw [hfo] at hn; exact absurd rfl hn
    | cons j r =>
      have h1 := fore_lt (t := t) (f := f) j (by rw [hfo]; exact List.mem_cons_self ..)
      have h2 := fore_up (t := t) hr
      rw [hfo] at h2
      have := h2.1.1
      omega

theorem aheadL_val {f : List api_Jump} {t : Int} (hf : mayB f = true) (p : Int) : val (aheadL t f) p = if p < t then val f p else 0 := by
  unfold aheadL
  by_cases hp : p < t
  · rw [if_pos hp, val_fore (may_iff.1 hf).2 hp, val_append]
    split
    · simp [val]
    · rw [val_cons, val_nil]; simp; omega
  · rw [if_neg hp, val_append, val_all (fun j hj => by have := fore_lt j hj; omega)]
    split
    · rename_i h0; rw [h0]; simp [val]
    · rw [val_cons, val_nil, if_pos (show (⟨t, -nets (fore t f)⟩ : api_Jump).At ≤ p by show t ≤ p; omega)]; simp; omega

theorem restL_up {f : List api_Jump} {t : Int} (hf : mayB f = true) (ht : -1 < t) : Up (-2) (restL t f) := by
  have hr := (may_iff.1 hf).2
  unfold restL
  split
  · simpa using aft_up (l' := -2) (by omega) hr
  · rename_i hn
    exact ⟨⟨by show (-2 : Int) < -1; omega, by show (-1 : Int) < _; omega, hn⟩, aft_up (l' := -1) ht hr⟩

theorem restL_val {f : List api_Jump} {t : Int} (hf : mayB f = true) (p : Int) (hp : -1 ≤ p) : val (restL t f) p = val f (if p < t then t - 1 else p) := by
  have hr := (may_iff.1 hf).2
  unfold restL
  rw [val_append]
  have e1 : val (if nets (fore t f) = 0 then [] else [⟨-1, nets (fore t f)⟩]) p = nets (fore t f) := by
    split
    · rename_i h0; rw [h0]; rfl
    · rw [val_cons, val_nil, if_pos (show (⟨-1, nets (fore t f)⟩ : api_Jump).At ≤ p from hp)]; simp
  rw [e1]
  by_cases h : p < t
  · rw [if_pos h, val_above (f := aft t f) (fun j hj => by have := aft_ge hr j hj; omega), ← nets_fore hr]; omega
  · rw [if_neg h, val_aft hr (t := t) (by omega)]

theorem mayB_told {f : List api_Jump} (h : mayB f = true) : told f = (f, 0) := by simp [told, h]

theorem refAhead_eq (f : List api_Jump) (t : Int) : s_ref09_Ahead f t = some (ahead f t) := by
  unfold s_ref09_Ahead ahead
  rw [refMay_eq]
  cases h : mayB f
  · simp
  · obtain ⟨hl, hr⟩ := may_iff.1 h
    simp only [Option.bind_some, Bool.not_true, cond_false, if_true]
    have hP := putL_inc (ps := []) (show Inc (-2) [] from trivial) (may_places h)
    have hlen := putL_len (f := f) (ps := [])
    simp only [List.length_nil] at hlen
    rw [places_eq (may_places h) (by simp) (by simp only [List.length_nil]; omega)]
    -- the values at places
    have key : ∀ ps : List Int, Inc (-2) ps → (∀ j ∈ f, j.At ∈ ps) → (-1 ≤ t → t < 1125899906842624 → t ∈ ps) → ps.length ≤ 2048 → ref09_Ahead_j1 f t ps = some (if 1125899906842624 ≤ t then (f, 0) else told (aheadL t f)) := by
      intro ps hi hm ht hlp
      unfold ref09_Ahead_j1 ref09_Ahead_h3
      rw [values_loop (ps := ps) (F := fun p => if p < t then val f p else 0) (body := fun s : List Int × Int => ref09_Ahead_l3 f t ps s.1 s.2) ?_ ?_ (by omega)]
      · simp only [Option.bind_some, ref09_Ahead_j2]
        rw [refTold_eq (ps := ps) (F := fun p => if p < t then val f p else 0) (by omega) (fun p _ => by have := may_val_bound h p; split <;> omega)]
        have e : toldL 0 (ps.map fun p => (p, if p < t then val f p else 0)) = if 1125899906842624 ≤ t then f else aheadL t f := by
          refine toldL_is (F := fun p => if p < t then val f p else 0) ?_ hi ?_ ?_ ?_
          · simp only [may_m2 h]; split <;> rfl
          · intro s s' h1 hst h2 hn
            have e1 : val f s = val f s' := val_const hst fun j hj hc => hn j.At (hm j hj) hc
            simp only [e1]
            by_cases c1 : s < t
            · by_cases c2 : s' < t
              · rw [if_pos c1, if_pos c2]
              · exact absurd ⟨c1, by omega⟩ (hn t (ht (by omega) (by omega)))
            · rw [if_neg c1, if_neg (by omega)]
          · split
            · exact may_up h
            · exact aheadL_up h (by omega)
          · intro s h1 h2
            split
            · rw [if_pos (by omega)]
            · exact aheadL_val h s
        rw [e]
        by_cases c : 1125899906842624 ≤ t
        · simp [c, mayB_told h]
        · simp [c]
      · intro i a vs ha _ hv
        obtain ⟨d1, d2, d3, d4⟩ := idx ha (by omega)
        show ref09_Ahead_l3 f t ps vs i = _
        simp only [ref09_Ahead_l3, ref09_Ahead_j4, d1, cond_true, asrt_pos d2, d3, d4, refValue_may h]
        have ho : (vs.length + List.length [val f a]) * 8 ≤ 140737488355328 ∧ vs.length + List.length [val f a] ≤ 9223372036854775807 := by simp only [List.length_cons, List.length_nil]; omega
        have ho' : (vs.length + List.length [(0 : Int)]) * 8 ≤ 140737488355328 ∧ vs.length + List.length [(0 : Int)] ≤ 9223372036854775807 := by simp only [List.length_cons, List.length_nil]; omega
        by_cases c : a < t
        · simp only [c, decide_true, cond_true, if_true, Option.bind_some]; exact asrt_pos ho
        · simp only [c, decide_false, cond_false, if_false]; exact asrt_pos ho'
      · intro vs
        show ref09_Ahead_l3 f t ps vs _ = _
        simp only [ref09_Ahead_l3, idx_end, cond_false]
    simp only [Option.bind_some]
    by_cases c : -1 ≤ t ∧ t < 1125899906842624
    · have hc : (decide ((-1 : Int) ≤ t) && decide (t < 1125899906842624)) = true := by simp [c]
      rw [hc, cond_true]
      have hlen2 := withL_len (t := t) (ps := putL [] f)
      show (s_ref09_With (putL [] f) t).bind _ = _
      rw [with_eq hP (by omega)]
      exact key (withL t (putL [] f)) (withL_inc hP (by omega) c.2) (fun j hj => withL_mem.2 (Or.inr (putL_mem.2 (Or.inr ⟨j, hj, rfl⟩)))) (fun _ _ => withL_mem.2 (Or.inl rfl)) (by omega)
    · have hc : (decide ((-1 : Int) ≤ t) && decide (t < 1125899906842624)) = false := by
        rw [Bool.eq_false_iff]; intro hc; exact c (by simpa using hc)
      rw [hc, cond_false]
      exact key (putL [] f) hP (fun j hj => putL_mem.2 (Or.inr ⟨j, hj, rfl⟩)) (fun h1 h2 => absurd ⟨h1, h2⟩ c) (by show (putL [] f).length ≤ _; omega)

theorem refRest_eq (f : List api_Jump) (t : Int) (ht : in64 t) : s_ref09_Rest f t = some (rest f t) := by
  unfold s_ref09_Rest rest
  rw [refMay_eq]
  cases h : mayB f
  · simp
  · obtain ⟨hl, hr⟩ := may_iff.1 h
    simp only [Option.bind_some, Bool.not_true, cond_false, if_true]
    by_cases c : 1125899906842624 ≤ t
    · simp [c]
    · simp only [c, decide_false, cond_false, if_false]
      have hP := putL_inc (ps := []) (show Inc (-2) [] from trivial) (may_places h)
      have hlen := putL_len (f := f) (ps := [])
      simp only [List.length_nil] at hlen
      rw [places_eq (may_places h) (by simp) (by simp only [List.length_nil]; omega)]
      have hlen2 := withL_len (t := -1) (ps := putL [] f)
      simp only [Option.bind_some]
      show (s_ref09_With (putL [] f) (-1)).bind _ = _
      rw [with_eq hP (by omega)]
      simp only [Option.bind_some, ref09_Rest_h2]
      have hi : Inc (-2) (withL (-1) (putL [] f)) := withL_inc hP (by omega) (by omega)
      have hm : ∀ j ∈ f, j.At ∈ withL (-1) (putL [] f) := fun j hj => withL_mem.2 (Or.inr (putL_mem.2 (Or.inr ⟨j, hj, rfl⟩)))
      have hm1 : (-1 : Int) ∈ withL (-1) (putL [] f) := withL_mem.2 (Or.inl rfl)
      generalize withL (-1) (putL [] f) = ps at hi hm hm1 hlen2
      rw [values_loop (ps := ps) (F := fun p => if p < -1 then 0 else val f (if -1 < t ∧ p < t then t - 1 else p)) (body := fun s : List Int × Int => ref09_Rest_l2 f t ps s.1 s.2) ?_ ?_ (by omega)]
      · simp only [Option.bind_some, ref09_Rest_j1]
        rw [refTold_eq (ps := ps) (F := fun p => if p < -1 then 0 else val f (if -1 < t ∧ p < t then t - 1 else p)) (by omega) (fun p _ => by have := may_val_bound h (if -1 < t ∧ p < t then t - 1 else p); split <;> omega)]
        have e : toldL 0 (ps.map fun p => (p, if p < -1 then 0 else val f (if -1 < t ∧ p < t then t - 1 else p))) = if t ≤ -1 then f else restL t f := by
          refine toldL_is (F := fun p => if p < -1 then 0 else val f (if -1 < t ∧ p < t then t - 1 else p)) ?_ hi ?_ ?_ ?_
          · simp
          · intro s s' h1 hst h2 hn
            by_cases c0 : s < -1
            · by_cases c1 : s' < -1
              · simp only [c0, c1, if_true]
              · exact absurd ⟨c0, by omega⟩ (hn (-1) hm1)
            · have c1 : ¬ s' < -1 := by omega
              simp only [c0, c1, if_false]
              by_cases c2 : -1 < t ∧ s < t
              · by_cases c3 : s' < t
                · rw [if_pos c2, if_pos ⟨c2.1, c3⟩]
                · rw [if_pos c2, if_neg (fun hc => c3 hc.2)]
                  by_cases c4 : t - 1 = s
                  · rw [c4]; exact val_const hst fun j hj hc => hn j.At (hm j hj) hc
                  · exact val_const (by omega) fun j hj hc => hn j.At (hm j hj) ⟨by omega, hc.2⟩
              · rw [if_neg c2, if_neg (by omega)]
                exact val_const hst fun j hj hc => hn j.At (hm j hj) hc
          · split
            · exact may_up h
            · exact restL_up h (by omega)
          · intro s h1 h2
            rw [if_neg (show ¬ s < -1 by omega)]
            by_cases c1 : t ≤ -1
            · rw [if_pos c1, if_neg (by omega)]
            · rw [if_neg c1, restL_val h s (by omega)]
              by_cases c2 : s < t
              · rw [if_pos c2, if_pos ⟨by omega, c2⟩]
              · rw [if_neg c2, if_neg (fun hc => c2 hc.2)]
        rw [e]
        by_cases c : t ≤ -1
        · simp [c, mayB_told h]
        · simp [c]
      · intro i a vs ha hmem hv
        obtain ⟨d1, d2, d3, d4⟩ := idx ha (by omega)
        have hge := (hi.above a hmem).1
        show ref09_Rest_l2 f t ps vs i = _
        have hw : IntKind.i64.wrap (t - 1) = if t = -9223372036854775808 then 9223372036854775807 else t - 1 := by
          have := ht.1; have := ht.2
          split
          · rename_i e; rw [e]; decide
          · exact wrap_in (by omega) (by omega)
        have ho : ∀ x : Int, (vs.length + List.length [x]) * 8 ≤ 140737488355328 ∧ vs.length + List.length [x] ≤ 9223372036854775807 := by intro x; simp only [List.length_cons, List.length_nil]; omega
        simp only [ref09_Rest_l2, ref09_Rest_j3, d1, cond_true, asrt_pos d2, d3, d4, refValue_may h, Option.bind_some, asrt_pos (ho _)]
        rw [if_neg (show ¬ a < -1 by omega)]
        by_cases c1 : -1 < t <;> by_cases c2 : a < t
        · simp only [c1, c2, decide_true, Bool.and_self, cond_true, and_self, if_true, hw]
          rw [if_neg (by omega)]
        · simp [c1, c2]
        · simp [c1, c2]
        · simp [c1, c2]
      · intro vs
        show ref09_Rest_l2 f t ps vs _ = _
        simp only [ref09_Rest_l2, idx_end, cond_false]

end Go.Abs
