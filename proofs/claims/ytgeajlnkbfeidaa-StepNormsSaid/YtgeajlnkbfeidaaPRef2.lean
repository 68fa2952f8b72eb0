/- Plain laws of the document's own answer for layer 9: values, places, and what is told of them. -/
import Derived.Test.YtgeajlnkbfeidaaPRef1
import Derived.Test.YtgeajlnkbfeidaaPLoop
import Derived.Test.YtgeajlnkbfeidaaPUp
namespace Go.Abs
open Go

theorem refValue_eq {f : List api_Jump} (t : Int) (hb : ∀ j ∈ f, j.Net ≤ 1048576 ∧ -1048576 ≤ j.Net) (hl : f.length ≤ 1099511627776) : s_ref09_Value f t = some (val f t) := by
  unfold s_ref09_Value ref09_Value_h2
  rw [lp_suf0 (l := f) (body := fun s : Int × Int => ref09_Value_l2 f t s.1 s.2) (fun v i => (v, i)) (fun v r => v + val r t)
    (fun v r => (∀ j ∈ r, j.Net ≤ 1048576 ∧ -1048576 ≤ j.Net) ∧ r.length ≤ 1099511627776 ∧ v ≤ 1048576 * (1099511627776 - r.length) ∧ -(1048576 * (1099511627776 - r.length)) ≤ v) 0 ?_ ?_ ?_]
  · simp [ref09_Value_j1]
  · intro i a r v ha ⟨h1, h2, h3, h4⟩
    obtain ⟨d1, d2, d3, d4⟩ := idx ha (by omega)
    have hj := h1 a (List.mem_cons_self ..)
    simp only [List.length_cons] at h2 h3 h4
    left
    by_cases h : a.At ≤ t
    · refine ⟨v + a.Net, ?_, ⟨fun j hj => h1 j (List.mem_cons_of_mem _ hj), by omega, by omega, by omega⟩, ?_⟩
      · show ref09_Value_l2 f t v i = _
        have hw : IntKind.i64.wrap (v + a.Net) = v + a.Net := wrap_in (by omega) (by omega)
        simp only [ref09_Value_l2, ref09_Value_j3, d1, cond_true, asrt_pos d2, d3, d4, h, decide_true, hw]
      · show v + a.Net + val r t = v + val (a :: r) t
        rw [val_cons, if_pos h]; omega
    · refine ⟨v, ?_, ⟨fun j hj => h1 j (List.mem_cons_of_mem _ hj), by omega, by omega, by omega⟩, ?_⟩
      · show ref09_Value_l2 f t v i = _
        simp only [ref09_Value_l2, ref09_Value_j3, d1, cond_true, asrt_pos d2, d3, d4, h, decide_false, cond_false]
      · show v + val r t = v + val (a :: r) t
        rw [val_cons, if_neg h]; omega
  · intro s _
    show ref09_Value_l2 f t s (f.length : Nat) = _
    simp only [ref09_Value_l2, idx_end, cond_false]
    simp [val]
  · exact ⟨hb, hl, by omega, by omega⟩

theorem may_nets {f : List api_Jump} (h : mayB f = true) : ∀ j ∈ f, j.Net ≤ 1048576 ∧ -1048576 ≤ j.Net := fun j hj => by have := (may_iff.1 h).2.above j hj; omega

theorem refValue_may {f : List api_Jump} (h : mayB f = true) (t : Int) : s_ref09_Value f t = some (val f t) :=
  refValue_eq t (may_nets h) (by have := (may_iff.1 h).1; omega)

theorem refAt_eq (f : List api_Jump) (t : Int) : s_ref09_At f t = some (if mayB f then val f t else 0) := by
  unfold s_ref09_At
  rw [refMay_eq]
  cases h : mayB f
  · simp
  · simp [refValue_may h]

/-- A list of places with one more. -/
def withL (t : Int) : List Int → List Int
  | [] => [t]
  | p :: r => if p = t then p :: r else if t < p then t :: p :: r else p :: withL t r

theorem withL_mem {t x : Int} : ∀ {ps : List Int}, x ∈ withL t ps ↔ x = t ∨ x ∈ ps
  | [] => by simp [withL]
  | p :: r => by
    unfold withL
    split
    · rename_i h; subst h; simp
    · split
      · simp
      · simp only [List.mem_cons, withL_mem (ps := r)]; constructor <;> (intro h; rcases h with h | h | h <;> simp [h])

theorem withL_inc {t : Int} : ∀ {ps : List Int} {last : Int}, Inc last ps → last < t → t < 1125899906842624 → Inc last (withL t ps)
  | [], last, _, h1, h2 => ⟨⟨h1, h2⟩, trivial⟩
  | p :: r, last, h, h1, h2 => by
    unfold withL
    split
    · exact h
    · split
      · rename_i h3 h4
        exact ⟨⟨h1, h2⟩, ⟨h4, h.1.2⟩, h.2⟩
      · exact ⟨h.1, withL_inc h.2 (by omega) h2⟩

theorem withL_len {t : Int} : ∀ {ps : List Int}, (withL t ps).length ≤ ps.length + 1
  | [] => by simp [withL]
  | p :: r => by
    unfold withL
    split
    · simp
    · split
      · simp
      · simp only [List.length_cons]; have := withL_len (t := t) (ps := r); omega

theorem withL_append {t : Int} : ∀ {ps : List Int}, (∀ x ∈ ps, x < t) → withL t ps = ps ++ [t]
  | [], _ => rfl
  | p :: r, h => by
    have := h p (List.mem_cons_self ..)
    unfold withL
    rw [if_neg (by omega), if_neg (by omega), withL_append (fun x hx => h x (List.mem_cons_of_mem _ hx))]; rfl

theorem withL_self {t : Int} : ∀ {ps : List Int} {last : Int}, Inc last ps → t ∈ ps → withL t ps = ps
  | [], _, _, h => by simp at h
  | p :: r, last, hi, h => by
    unfold withL
    split
    · rfl
    · rename_i hp
      rcases List.mem_cons.1 h with h | h
      · exact absurd h.symm hp
      · have := (hi.2.above t h).1
        rw [if_neg (by omega), withL_self hi.2 h]

theorem With_body {l out : List Int} {t a : Int} {put : Bool} {i : Nat} (ha : l[i]? = some a) (hl : l.length ≤ 1099511627776) (ho : out.length ≤ 2199023255552) :
    ref09_With_l3 l t out put i = some (if a = t then .inr (.inr l) else if t < a ∧ put = false then .inl (out ++ [t] ++ [a], true, ((i + 1 : Nat) : Int)) else .inl (out ++ [a], put, ((i + 1 : Nat) : Int))) := by
  obtain ⟨d1, d2, d3, d4⟩ := idx ha (by omega)
  simp only [ref09_With_l3, ref09_With_j4, d1, cond_true, asrt_pos d2, d3, d4]
  by_cases h1 : a = t
  · simp [h1]
  · rw [decide_eq_false h1, cond_false, if_neg h1]
    by_cases h2 : t < a
    · cases put
      · simp only [h2, decide_true, Bool.not_false, Bool.and_self, cond_true, and_self, if_true]
        rw [asrt_pos (by simp only [List.length_cons, List.length_nil]; omega), asrt_pos (by simp only [List.length_append, List.length_cons, List.length_nil]; omega)]
      · simp only [h2, decide_true, Bool.not_true, Bool.and_false, cond_false, and_false, if_false, reduceCtorEq]
        rw [asrt_pos (by simp only [List.length_cons, List.length_nil]; omega)]
    · simp only [h2, decide_false, Bool.false_and, cond_false, false_and, if_false]
      rw [asrt_pos (by simp only [List.length_cons, List.length_nil]; omega)]

theorem with_eq {l : List Int} {last t : Int} (hi : Inc last l) (hl : l.length ≤ 1099511627776) : s_ref09_With l t = some (withL t l) := by
  unfold s_ref09_With ref09_With_h3
  rw [lp_suf0 (l := l) (body := fun s : List Int × Bool × Int => ref09_With_l3 l t s.1 s.2.1 s.2.2) (fun (s : List Int × Bool) i => (s.1, s.2, i))
    (fun s r => if s.2 then .inl (s.1 ++ r, true) else if t ∈ r then .inr l else if (∃ x ∈ r, t < x) then .inl (s.1 ++ withL t r, true) else .inl (s.1 ++ r, false))
    (fun s r => (∃ m, Inc m r) ∧ (s.2 = true → ∀ x ∈ r, t < x) ∧ r.length ≤ 1099511627776 ∧ s.1.length + r.length ≤ 1099511627777 + (if s.2 then 1 else 0)) ([], false) ?_ ?_ ?_]
  · simp only [Bool.false_eq_true, if_false, List.nil_append, Option.bind_some]
    by_cases h1 : t ∈ l
    · simp [h1, withL_self hi h1]
    · simp only [h1, if_false]
      by_cases h2 : ∃ x ∈ l, t < x
      · simp only [h2, if_true]
        simp [ref09_With_j1, ref09_With_j2]
      · simp only [h2, if_false]
        have : ∀ x ∈ l, x < t := fun x hx => by
          have h3 : ¬ t < x := fun h => h2 ⟨x, hx, h⟩
          have h4 : x ≠ t := fun h => h1 (h ▸ hx)
          omega
        rw [withL_append this]
        simp only [Sum.elim_inl, ref09_With_j1, ref09_With_j2, Bool.not_false, cond_true]
        rw [asrt_pos (by simp only [List.length_cons, List.length_nil]; omega)]
  · rintro i a r ⟨out, put⟩ ha ⟨⟨m, hm⟩, h1, h2, h3⟩
    simp only [List.length_cons] at h2 h3
    have hb := With_body (t := t) (put := put) (out := out) ha hl (by split at h3 <;> omega)
    have hab : ∀ x ∈ r, a < x := fun x hx => (hm.2.above x hx).1
    cases put
    · by_cases e : a = t
      · right
        show ref09_With_l3 l t out false i = _
        rw [hb]; simp [e]
      · left
        by_cases e2 : t < a
        · have hnt : t ∉ a :: r := fun h => by
            rcases List.mem_cons.1 h with h | h
            · exact e h.symm
            · have := hab t h; omega
          refine ⟨(out ++ [t] ++ [a], true), ?_, ⟨⟨a, hm.2⟩, fun _ x hx => by have := hab x hx; omega, by omega, by simp only [List.length_append, List.length_cons, List.length_nil, Bool.false_eq_true, if_false, if_true] at h3 ⊢; omega⟩, ?_⟩
          · show ref09_With_l3 l t out false i = _
            rw [hb]; simp [e, e2]
          · have hex : ∃ x ∈ a :: r, t < x := ⟨a, List.mem_cons_self .., e2⟩
            simp only [if_true, Bool.false_eq_true, if_false, hnt, hex]
            simp [withL, e, e2]
        · refine ⟨(out ++ [a], false), ?_, ⟨⟨a, hm.2⟩, fun h => absurd h (by simp), by omega, by simp only [List.length_append, List.length_cons, List.length_nil, Bool.false_eq_true, if_false] at h3 ⊢; omega⟩, ?_⟩
          · show ref09_With_l3 l t out false i = _
            rw [hb]; simp [e, e2]
          · have i1 : (t ∈ a :: r) ↔ t ∈ r := by simp only [List.mem_cons]; constructor; (intro h; rcases h with h | h; exact absurd h.symm e; exact h); exact Or.inr
            have i2 : (∃ x ∈ a :: r, t < x) ↔ (∃ x ∈ r, t < x) := by
              constructor
              · rintro ⟨x, hx, hx'⟩
                rcases List.mem_cons.1 hx with rfl | hx
                · exact absurd hx' e2
                · exact ⟨x, hx, hx'⟩
              · rintro ⟨x, hx, hx'⟩; exact ⟨x, List.mem_cons_of_mem _ hx, hx'⟩
            simp only [Bool.false_eq_true, if_false, i1, i2]
            simp [withL, e, e2]
    · left
      have ht := h1 rfl a (List.mem_cons_self ..)
      refine ⟨(out ++ [a], true), ?_, ⟨⟨a, hm.2⟩, fun _ x hx => h1 rfl x (List.mem_cons_of_mem _ hx), by omega, by simp only [List.length_append, List.length_cons, List.length_nil, if_true] at h3 ⊢; omega⟩, ?_⟩
      · show ref09_With_l3 l t out true i = _
        have : a ≠ t := by omega
        rw [hb]; simp [this]
      · simp
  · rintro ⟨out, put⟩ _
    show ref09_With_l3 l t out put (l.length : Nat) = _
    simp only [ref09_With_l3, idx_end, cond_false]
    cases put <;> simp
  · exact ⟨⟨last, hi⟩, fun h => absurd h (by simp), hl, by simp only [List.length_nil]; simp; omega⟩

/-- Places of a list of jumps, put to others. -/
def putL (ps : List Int) (f : List api_Jump) : List Int := f.foldl (fun ps j => withL j.At ps) ps

theorem putL_mem {x : Int} : ∀ {f : List api_Jump} {ps : List Int}, x ∈ putL ps f ↔ x ∈ ps ∨ ∃ j ∈ f, j.At = x
  | [], ps => by simp [putL]
  | k :: r, ps => by
    have := putL_mem (x := x) (f := r) (ps := withL k.At ps)
    unfold putL at this ⊢
    rw [List.foldl_cons, this, withL_mem]
    constructor
    · rintro ((h | h) | ⟨j, h, h'⟩)
      · exact Or.inr ⟨k, List.mem_cons_self .., h.symm⟩
      · exact Or.inl h
      · exact Or.inr ⟨j, List.mem_cons_of_mem _ h, h'⟩
    · rintro (h | ⟨j, h, h'⟩)
      · exact Or.inl (Or.inr h)
      · rcases List.mem_cons.1 h with rfl | h
        · exact Or.inl (Or.inl h'.symm)
        · exact Or.inr ⟨j, h, h'⟩

theorem putL_inc : ∀ {f : List api_Jump} {ps : List Int} {last : Int}, Inc last ps → (∀ j ∈ f, last < j.At ∧ j.At < 1125899906842624) → Inc last (putL ps f)
  | [], _, _, h, _ => h
  | k :: r, ps, last, h, hf => by
    have hk := hf k (List.mem_cons_self ..)
    exact putL_inc (f := r) (withL_inc h hk.1 hk.2) fun j hj => hf j (List.mem_cons_of_mem _ hj)

theorem putL_len : ∀ {f : List api_Jump} {ps : List Int}, (putL ps f).length ≤ ps.length + f.length
  | [], ps => by simp [putL]
  | k :: r, ps => by
    have := putL_len (f := r) (ps := withL k.At ps)
    have h2 := withL_len (t := k.At) (ps := ps)
    unfold putL at this ⊢
    rw [List.foldl_cons]; simp only [List.length_cons]; omega

theorem places_loop {β : Type} {f : List api_Jump} {body : List Int × Int → Option ((List Int × Int) ⊕ List Int)} {ps : List Int} (hb : ∀ (i : Nat) a ps, f[i]? = some a → body (ps, (i : Int)) = (s_ref09_With ps a.At).bind fun x => some (.inl (x, ((i + 1 : Nat) : Int))))
    (he : ∀ ps, body (ps, (f.length : Nat)) = some (.inr ps)) (hi : Inc (-2) ps) (hf : ∀ j ∈ f, -2 < j.At ∧ j.At < 1125899906842624) (hl : ps.length + f.length ≤ 1099511627776) : lp body (ps, 0) = some (putL ps f) := by
  refine lp_suf0 (l := f) (fun ps i => (ps, i)) (fun ps r => putL ps r) (fun ps r => Inc (-2) ps ∧ (∀ j ∈ r, -2 < j.At ∧ j.At < 1125899906842624) ∧ ps.length + r.length ≤ 1099511627776) ps ?_ ?_ ⟨hi, hf, hl⟩
  · rintro i a r ps ha ⟨h1, h2, h3⟩
    have hk := h2 a (List.mem_cons_self ..)
    have hlen := withL_len (t := a.At) (ps := ps)
    simp only [List.length_cons] at h3
    left
    refine ⟨withL a.At ps, ?_, ⟨withL_inc h1 hk.1 hk.2, fun j hj => h2 j (List.mem_cons_of_mem _ hj), by omega⟩, rfl⟩
    rw [hb i a ps ha, with_eq h1 (by omega)]; rfl
  · intro ps _; exact he ps

theorem places_eq {f g : List api_Jump} (hf : ∀ j ∈ f, -2 < j.At ∧ j.At < 1125899906842624) (hg : ∀ j ∈ g, -2 < j.At ∧ j.At < 1125899906842624) (hl : f.length + g.length ≤ 1099511627776) : s_ref09_Places f g = some (putL (putL [] f) g) := by
  unfold s_ref09_Places ref09_Places_h4
  rw [places_loop (β := Unit) (f := f) (body := fun s : List Int × Int => ref09_Places_l4 f g s.1 s.2) ?_ ?_ (ps := []) (show Inc (-2) [] from trivial) hf (by simp only [List.length_nil]; omega)]
  · simp only [Option.bind_some, ref09_Places_j1, ref09_Places_h3]
    rw [places_loop (β := Unit) (f := g) (body := fun s : List Int × Int => ref09_Places_l3 g s.1 s.2) ?_ ?_ (putL_inc (ps := []) (show Inc (-2) [] from trivial) hf) hg (by have := putL_len (f := f) (ps := []); simp only [List.length_nil] at this; omega)]
    · rfl
    · intro i a ps ha
      obtain ⟨d1, d2, d3, d4⟩ := idx ha (by omega)
      show ref09_Places_l3 g ps i = _
      simp only [ref09_Places_l3, d1, cond_true, asrt_pos d2, d3, d4]
    · intro ps
      show ref09_Places_l3 g ps _ = _
      simp only [ref09_Places_l3, idx_end, cond_false]
  · intro i a ps ha
    obtain ⟨d1, d2, d3, d4⟩ := idx ha (by omega)
    show ref09_Places_l4 f g ps i = _
    simp only [ref09_Places_l4, d1, cond_true, asrt_pos d2, d3, d4]
  · intro ps
    show ref09_Places_l4 f g ps _ = _
    simp only [ref09_Places_l4, idx_end, cond_false]

theorem refTold_eq {ps : List Int} {F : Int → Int} (hl : ps.length ≤ 1099511627776) (hb : ∀ p ∈ ps, -2305843009213693952 ≤ F p ∧ F p ≤ 2305843009213693952) :
    s_ref09_Told ps (ps.map F) = some (told (toldL 0 (ps.map fun p => (p, F p)))) := by
  unfold s_ref09_Told ref09_Told_h2
  rw [lp_suf0 (l := ps) (body := fun s : List api_Jump × Int × Int => ref09_Told_l2 ps (ps.map F) s.1 s.2.1 s.2.2) (fun (s : List api_Jump × Int) i => (s.1, s.2, i))
    (fun s r => s.1 ++ toldL s.2 (r.map fun p => (p, F p))) (fun s r => (∀ p ∈ r, -2305843009213693952 ≤ F p ∧ F p ≤ 2305843009213693952) ∧ (-2305843009213693952 ≤ s.2 ∧ s.2 ≤ 2305843009213693952) ∧ s.1.length + r.length ≤ 1099511627776) ([], 0) ?_ ?_ ?_]
  · simp only [List.nil_append, Option.bind_some, ref09_Told_j1, refMay_eq, told]
    cases h : mayB (toldL 0 (ps.map fun p => (p, F p))) <;> simp
  · rintro i a r ⟨out, was⟩ ha ⟨h1, h2, h3⟩
    simp only [List.length_cons] at h2 h3
    obtain ⟨d1, d2, d3, d4⟩ := idx ha (by omega)
    have ha' : (ps.map F)[i]? = some (F a) := by rw [List.getElem?_map, ha]; rfl
    obtain ⟨_, e2, e3, _⟩ := idx ha' (by rw [List.length_map]; omega)
    have hF := h1 a (List.mem_cons_self ..)
    left
    refine ⟨(out ++ emit a (F a) was, F a), ?_, ⟨fun p hp => h1 p (List.mem_cons_of_mem _ hp), hF, ?_⟩, ?_⟩
    · show ref09_Told_l2 ps (ps.map F) out was i = _
      have hw : IntKind.i64.wrap (F a - was) = F a - was := wrap_in (by omega) (by omega)
      simp only [ref09_Told_l2, ref09_Told_j3, d1, cond_true, asrt_pos d2, asrt_pos e2, e3, d3, d4, hw]
      unfold emit
      by_cases h : F a = was
      · simp [h]
      · simp only [h, decide_false, Bool.not_false, cond_true, if_false]
        rw [asrt_pos (by simp only [List.length_cons, List.length_nil]; omega)]
    · have : (emit a (F a) was).length ≤ 1 := by unfold emit; split <;> simp
      simp only [List.length_append]; omega
    · simp [toldL]
  · rintro ⟨out, was⟩ _
    show ref09_Told_l2 ps (ps.map F) out was (ps.length : Nat) = _
    simp only [ref09_Told_l2, idx_end, cond_false]
    simp [toldL]
  · exact ⟨hb, ⟨by omega, by omega⟩, by simp only [List.length_nil]; omega⟩

/-- A loop that tells values at places. -/
theorem values_loop {ps : List Int} {F : Int → Int} {body : List Int × Int → Option ((List Int × Int) ⊕ List Int)} (hb : ∀ (i : Nat) a vs, ps[i]? = some a → a ∈ ps → vs.length ≤ 1099511627776 → body (vs, (i : Int)) = some (.inl (vs ++ [F a], ((i + 1 : Nat) : Int))))
    (he : ∀ vs, body (vs, (ps.length : Nat)) = some (.inr vs)) (hl : ps.length ≤ 1099511627776) : lp body ([], 0) = some (ps.map F) := by
  rw [lp_suf0 (l := ps) (fun vs i => (vs, i)) (fun vs r => vs ++ r.map F) (fun vs r => vs.length + r.length ≤ 1099511627776) [] ?_ ?_ (by simpa using hl)]
  · simp
  · rintro i a r vs ha h1
    simp only [List.length_cons] at h1
    left
    refine ⟨vs ++ [F a], hb i a vs ha (List.mem_of_getElem? ha) (by omega), by simp only [List.length_append, List.length_cons, List.length_nil]; omega, by simp⟩
  · intro vs _; simpa using he vs

end Go.Abs
