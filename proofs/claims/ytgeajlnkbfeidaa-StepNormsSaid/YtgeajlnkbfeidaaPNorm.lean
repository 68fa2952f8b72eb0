/- Plain laws of layer 9: jumps put together, by the program and by the document. -/
import Derived.Test.YtgeajlnkbfeidaaPTwo
import Derived.Test.YtgeajlnkbfeidaaPSortJ
import Derived.Test.YtgeajlnkbfeidaaPIndex
namespace Go.Abs
open Go

theorem containsJ_eq {l : List api_Jump} {f : api_Jump → Option Bool} {g : api_Jump → Bool} (hl : l.length ≤ 1099511627776) (hf : ∀ x ∈ l, f x = some (g x)) : s_slices_ContainsFunc_api_Jump_api_Jump l f = some (l.any g) := by
  unfold s_slices_ContainsFunc_api_Jump_api_Jump s_slices_IndexFunc_api_Jump_api_Jump slices_IndexFunc_api_Jump_api_Jump_h2
  obtain ⟨x, e, hx⟩ := index_lp hl hf l 0 rfl (Nat.zero_le _)
  have e' : lp (fun s => slices_IndexFunc_api_Jump_api_Jump_l2 f l (l.length : Nat) s) 0 = some x := e
  rw [e']
  rcases hx with ⟨rfl, h⟩ | ⟨i, rfl, _, _, h, _⟩
  · simp [slices_IndexFunc_api_Jump_api_Jump_j1, h]
  · simp [h]

def unfair (j : api_Jump) : Bool := !fairB j.Net
def outT (j : api_Jump) : Bool := decide (j.At < -1) || decide (1125899906842624 < j.At)

/-- Jumps put together: by their places and values. -/
def normL (l : List api_Jump) : List api_Jump := toldL 0 ((putL [] (l.filter fun j => decide (j.At < 1125899906842624))).map fun p => (p, val l p))
def normF (l : List api_Jump) : List api_Jump × Int := if l.any unfair then ([], 2) else if l.any outT then ([], 13) else told (normL l)

/-! ### Runs of one place -/

def finP (p n : Int) : List api_Jump := if n ≠ 0 ∧ p < 1125899906842624 then [⟨p, n⟩] else []
def grpA (p n : Int) : List api_Jump → List api_Jump
  | [] => finP p n
  | j :: r => if j.At = p then grpA p (n + j.Net) r else finP p n ++ grpA j.At j.Net r
def grp : List api_Jump → List api_Jump
  | [] => []
  | j :: r => grpA j.At j.Net r

abbrev leAt (a b : api_Jump) : Prop := a.At ≤ b.At

theorem grpA_val {t : Int} (ht : t < 1125899906842624) : ∀ {r : List api_Jump} {p n : Int}, val (grpA p n r) t = (if p ≤ t then n else 0) + val r t
  | [], p, n => by
    unfold grpA finP
    split
    · rw [val_cons, val_nil]
    · rw [val_nil]; split <;> omega
  | j :: r, p, n => by
    unfold grpA
    split
    · rename_i h
      rw [grpA_val ht, val_cons, h]; split <;> omega
    · rw [val_append, grpA_val ht, val_cons]
      have : val (finP p n) t = if p ≤ t then n else 0 := by
        unfold finP
        split
        · rw [val_cons, val_nil]; simp
        · rw [val_nil]; split <;> omega
      rw [this]

theorem grp_val {t : Int} (ht : t < 1125899906842624) : ∀ {r : List api_Jump}, val (grp r) t = val r t
  | [] => rfl
  | j :: r => by unfold grp; rw [grpA_val ht, val_cons]

theorem grpA_up : ∀ {r : List api_Jump} {p n last : Int}, last < p → (∀ j ∈ r, p ≤ j.At) → Srt leAt r → Up last (grpA p n r)
  | [], p, n, last, h, _, _ => by
    unfold grpA finP
    split
    · rename_i h'; exact ⟨⟨h, h'.2, h'.1⟩, trivial⟩
    · trivial
  | j :: r, p, n, last, h, hp, hs => by
    have hj := hp j (by simp)
    have hs' := List.pairwise_cons.1 hs
    unfold grpA
    split
    · exact grpA_up h (fun k hk => hp k (by simp [hk])) hs'.2
    · have ih : Up p (grpA j.At j.Net r) := grpA_up (by omega) (fun k hk => hs'.1 k hk) hs'.2
      unfold finP
      split
      · rename_i h'; exact ⟨⟨h, h'.2, h'.1⟩, ih⟩
      · exact ih.weaken (by omega)

theorem grp_up {r : List api_Jump} (h : ∀ j ∈ r, -2 < j.At) (hs : Srt leAt r) : Up (-2) (grp r) := by
  cases r with
  | nil => trivial
  | cons j r =>
    have hs' := List.pairwise_cons.1 hs
    exact grpA_up (h j (by simp)) (fun k hk => hs'.1 k hk) hs'.2

theorem inner_lp {l out : List api_Jump} (hl : l.length ≤ 1099511627776) (hb : ∀ j ∈ l, j.Net ≤ 1048576 ∧ -1048576 ≤ j.Net) : ∀ (r : List api_Jump) (k : Nat) (p n : Int), l.drop k = r → k ≤ l.length → n ≤ 1048576 * k → -(1048576 * k) ≤ n →
    ∃ n' k', k ≤ k' ∧ k' ≤ l.length ∧ grpA p n r = finP p n' ++ grp (l.drop k') ∧ lp (fun s : List api_Jump × List api_Jump × Int × api_Jump => step_Norm_l4 s.1 s.2.1 s.2.2.1 s.2.2.2) (l, out, (k : Int), ⟨p, n⟩) = some (l, out, ((k' : Nat) : Int), ⟨p, n'⟩) ∧ (∀ j r', r = j :: r' → j.At = p → k < k')
  | [], k, p, n, hd, hk, _, _ => by
    have : k = l.length := by
      have := congrArg List.length hd
      simp only [List.length_drop, List.length_nil] at this; omega
    subst this
    refine ⟨n, l.length, Nat.le_refl _, Nat.le_refl _, by simp [grpA, grp], lp_last ?_, fun j r' h => by cases h⟩
    show step_Norm_l4 _ _ _ _ = _
    simp only [step_Norm_l4, idx_end, Bool.false_and, cond_false]
    exact asrt_pos (fun h => by cases h)
  | a :: r, k, p, n, hd, hk, h1, h2 => by
    obtain ⟨e1, e2⟩ := drop_cons hd
    have hlt : k < l.length := (List.getElem?_eq_some_iff.1 e1).1
    obtain ⟨d1, d2, d3, d4⟩ := idx e1 (by omega)
    have ha := hb a (List.mem_of_getElem? e1)
    by_cases h : a.At = p
    · have hw : IntKind.i64.wrap (n + a.Net) = n + a.Net := wrap_in (by omega) (by omega)
      obtain ⟨n', k', k1, k2, k3, k4, _⟩ := inner_lp hl hb r (k + 1) p (n + a.Net) e2 (by omega) (by omega) (by omega) (out := out)
      refine ⟨n', k', by omega, k2, by simp [grpA, h, k3], ?_, fun _ _ _ _ => by omega⟩
      have hb : (fun s : List api_Jump × List api_Jump × Int × api_Jump => step_Norm_l4 s.1 s.2.1 s.2.2.1 s.2.2.2) (l, out, (k : Int), ⟨p, n⟩) = some (.inl (l, out, ((k + 1 : Nat) : Int), ⟨p, n + a.Net⟩)) := by
        show step_Norm_l4 _ _ _ _ = _
        simp only [step_Norm_l4, d1, Bool.true_and, d3, d4, h, decide_true, cond_true, hw]
        rw [asrt_pos (fun _ => d2), asrt_pos d2]
      rw [lp_next hb, k4]
    · refine ⟨n, k, Nat.le_refl _, hk, ?_, lp_last ?_, fun j r' he hp => ?_⟩
      · rw [hd]; simp [grpA, h, grp]
      · show step_Norm_l4 _ _ _ _ = _
        simp only [step_Norm_l4, d1, Bool.true_and, d3, h, decide_false, cond_false]
        exact asrt_pos (fun _ => d2)
      · cases he; exact absurd hp h

theorem outer_lp {l : List api_Jump} (hl : l.length ≤ 1099511627776) (hb : ∀ j ∈ l, j.Net ≤ 1048576 ∧ -1048576 ≤ j.Net) : ∀ (m k : Nat) (out : List api_Jump), l.length - k ≤ m → k ≤ l.length → out.length ≤ k →
    lp (fun s : List api_Jump × List api_Jump × Int => step_Norm_l2 s.1 s.2.1 s.2.2) (l, out, (k : Int)) = some (out ++ grp (l.drop k)) := by
  have stop : ∀ out, lp (fun s : List api_Jump × List api_Jump × Int => step_Norm_l2 s.1 s.2.1 s.2.2) (l, out, ((l.length : Nat) : Int)) = some (out ++ grp (l.drop l.length)) := by
    intro out
    refine lp_last ?_
    show step_Norm_l2 _ _ _ = _
    simp only [step_Norm_l2, idx_end, cond_false]
    simp [grp]
  intro m
  induction m with
  | zero =>
    intro k out hm hk _
    have : k = l.length := by omega
    subst this; exact stop out
  | succ m ih =>
    intro k out hm hk ho
    by_cases he : k = l.length
    · subst he; exact stop out
    · have hlt : k < l.length := by omega
      have hd : l.drop k = l[k] :: l.drop (k + 1) := List.drop_eq_getElem_cons hlt
      obtain ⟨d1, d2, d3, d4⟩ := idx (List.getElem?_eq_getElem hlt) (by omega)
      obtain ⟨n', k', k1, k2, k3, k4, k5⟩ := inner_lp hl hb (l.drop k) k l[k].At 0 rfl hk (by omega) (by omega) (out := out)
      have hk' := k5 _ _ hd rfl
      have hbod : (fun s : List api_Jump × List api_Jump × Int => step_Norm_l2 s.1 s.2.1 s.2.2) (l, out, (k : Int)) = some (.inl (l, out ++ finP l[k].At n', ((k' : Nat) : Int))) := by
        show step_Norm_l2 _ _ _ = _
        simp only [step_Norm_l2, d1, cond_true, asrt_pos d2, d3, step_Norm_h4, k4, Option.bind_some, step_Norm_j3]
        unfold finP
        by_cases c : n' ≠ 0 ∧ l[k].At < 1125899906842624
        · have hc : (!decide (n' = 0) && decide (l[k].At < 1125899906842624)) = true := by simp [c]
          rw [hc, cond_true, if_pos c, asrt_pos (by simp only [List.length_cons, List.length_nil]; omega)]
        · have hc : (!decide (n' = 0) && decide (l[k].At < 1125899906842624)) = false := by
            rw [Bool.eq_false_iff]; intro h; apply c; simpa using h
          rw [hc, cond_false, if_neg c]; simp
      have hfl : (finP l[k].At n').length ≤ 1 := by unfold finP; split <;> simp
      rw [lp_next hbod, ih k' _ (by omega) k2 (by simp only [List.length_append]; omega)]
      have hg : grp (l.drop k) = grpA l[k].At 0 (l.drop k) := by rw [hd]; simp [grp, grpA]
      rw [hg, k3]; simp

/-! ### The sort -/

theorem cmpJ_eq (a b : api_Jump) : s_step_Norm_3 a b = some (if a.At < b.At then -1 else if b.At < a.At then 1 else 0) := by
  unfold s_step_Norm_3 s_cmp_Compare_int s_cmp_isNaN_int
  by_cases h1 : a.At < b.At
  · simp [h1]
  · by_cases h2 : b.At < a.At <;> simp [h1, h2]

theorem cmpJ : Cmp (fun _ => True) leAt (fun y0 y1 => s_step_Norm_3 y0 y1) where
  ans x y _ _ := ⟨_, cmpJ_eq x y, by unfold leAt; split <;> (try split) <;> omega⟩
  trans x y z _ _ _ h1 h2 := Int.le_trans h1 h2
  total x y _ _ := Int.le_total x.At y.At

theorem sortJ {l : List api_Jump} (hl : l.length ≤ 1099511627776) : ∃ r, r.Perm l ∧ Srt leAt r ∧ s_slices_SortStableFunc_api_Jump_api_Jump l (fun y0 y1 => s_step_Norm_3 y0 y1) = some r := by
  obtain ⟨r, r1, r2, r3⟩ := stable_ok cmpJ (d := l) (fun _ _ => trivial) hl
  refine ⟨r, r1, r2, ?_⟩
  unfold s_slices_SortStableFunc_api_Jump_api_Jump
  rw [stable_inst, r3]; rfl

theorem val_perm {f g : List api_Jump} (h : f.Perm g) (t : Int) : val f t = val g t := by
  induction h with
  | nil => rfl
  | cons x _ ih => rw [val_cons, val_cons, ih]
  | swap x y l => rw [val_cons, val_cons, val_cons, val_cons]; omega
  | trans _ _ ih1 ih2 => rw [ih1, ih2]

theorem any_unfair {l : List api_Jump} (h : l.any unfair = false) : ∀ j ∈ l, j.Net ≤ 1048576 ∧ -1048576 ≤ j.Net := by
  intro j hj
  have := List.any_eq_false.1 h j hj
  simp [unfair, fairB] at this
  omega

theorem any_outT {l : List api_Jump} (h : l.any outT = false) : ∀ j ∈ l, -2 < j.At ∧ j.At ≤ 1125899906842624 := by
  intro j hj
  have := List.any_eq_false.1 h j hj
  simp [outT] at this
  omega

theorem normL_inc {l : List api_Jump} (ht : ∀ j ∈ l, -2 < j.At) : Inc (-2) (putL [] (l.filter fun j => decide (j.At < 1125899906842624))) :=
  putL_inc (ps := []) (show Inc (-2) [] from trivial) fun j hj => by
    obtain ⟨h1, h2⟩ := List.mem_filter.1 hj
    exact ⟨ht j h1, by simpa using h2⟩

theorem normL_is {l h : List api_Jump} (ht : ∀ j ∈ l, -2 < j.At) (hh : Up (-2) h) (hv : ∀ t, -2 < t → t < 1125899906842624 → val h t = val l t) : normL l = h := by
  refine toldL_is (F := val l) (val_above fun j hj => ht j hj) (normL_inc ht) ?_ hh hv
  intro s t _ hst h2 hn
  exact val_const hst fun j hj hc => hn j.At (putL_mem.2 (Or.inr ⟨j, List.mem_filter.2 ⟨hj, by simp; omega⟩, rfl⟩)) hc

theorem norm_eq {l : List api_Jump} (hl : l.length ≤ 1099511627776) : s_step_Norm l = some (normF l) := by
  unfold s_step_Norm normF
  rw [containsJ_eq (g := unfair) hl (fun x _ => by simp [s_step_Norm_1, fair_eq, unfair])]
  simp only [Option.bind_some]
  cases h1 : l.any unfair
  · rw [containsJ_eq (f := fun y0 => s_step_Norm_2 y0) (g := outT) hl (fun x _ => rfl)]
    simp only [cond_false, Option.bind_some, Bool.false_eq_true, if_false]
    cases h2 : l.any outT
    · simp only [cond_false, Bool.false_eq_true, if_false]
      have hc : s_slices_Clone_api_Jump_api_Jump l = some l := by unfold s_slices_Clone_api_Jump_api_Jump; exact asrt_pos ⟨by omega, by omega⟩
      obtain ⟨r, r1, r2, r3⟩ := sortJ hl
      rw [hc]
      simp only [Option.bind_some]
      rw [r3]
      simp only [Option.bind_some, step_Norm_h2]
      have hlr : r.length ≤ 1099511627776 := by rw [r1.length_eq]; exact hl
      have := outer_lp hlr (fun j hj => any_unfair h1 j (r1.mem_iff.1 hj)) r.length 0 [] (by omega) (by omega) (by simp)
      simp only [Int.natCast_zero, List.drop_zero, List.nil_append] at this
      rw [this]
      simp only [Option.bind_some, step_Norm_j1, told_eq']
      rw [normL_is (fun j hj => (any_outT h2 j hj).1) (grp_up (fun j hj => (any_outT h2 j (r1.mem_iff.1 hj)).1) r2) (fun t _ ht => by rw [grp_val ht, val_perm r1])]
    · simp
  · simp

theorem refNorm_eq {l : List api_Jump} (hl : l.length ≤ 1099511627776) : s_ref09_Norm l = some (normF l) := by
  unfold s_ref09_Norm ref09_Norm_h7 normF
  rw [lp_any (l := l) (fun i => i) unfair (.inr ([], 2)) (.inl ()) ?_ ?_]
  · cases h1 : l.any unfair
    · simp only [Bool.false_eq_true, if_false, Option.bind_some, Sum.elim_inl, ref09_Norm_j1, ref09_Norm_h5]
      rw [lp_suf0 (l := l) (body := fun s : List Int × Int => ref09_Norm_l5 l s.1 s.2) (fun ps i => (ps, i)) (fun ps r => if r.any outT then .inr ([], 13) else .inl (putL ps (r.filter fun j => decide (j.At < 1125899906842624))))
        (fun ps r => Inc (-2) ps ∧ ps.length + r.length ≤ 1099511627776) [] ?_ ?_ ⟨trivial, by simpa using hl⟩]
      · cases h2 : l.any outT
        · simp only [Bool.false_eq_true, if_false, Option.bind_some, Sum.elim_inl, ref09_Norm_j2, ref09_Norm_h4]
          have hlen := putL_len (f := l.filter fun j => decide (j.At < 1125899906842624)) (ps := [])
          have hlf : (l.filter fun j => decide (j.At < 1125899906842624)).length ≤ l.length := List.length_filter_le _ _
          simp only [List.length_nil] at hlen
          have hvb : ∀ p, val l p ≤ 1048576 * l.length ∧ -(1048576 * l.length) ≤ val l p := fun p => val_bound p (by omega) (fun j hj => by have := any_unfair h1 j hj; omega)
          rw [values_loop (ps := putL [] (l.filter fun j => decide (j.At < 1125899906842624))) (F := val l) (body := fun s : List Int × Int => ref09_Norm_l4 l (putL [] (l.filter fun j => decide (j.At < 1125899906842624))) s.1 s.2) ?_ ?_ (by omega)]
          · simp only [Option.bind_some, ref09_Norm_j3]
            rw [refTold_eq (by omega) (fun p _ => by have := hvb p; omega)]
            rfl
          · intro i a vs ha _ hv
            obtain ⟨d1, d2, d3, d4⟩ := idx ha (by omega)
            show ref09_Norm_l4 l _ vs i = _
            simp only [ref09_Norm_l4, d1, cond_true, asrt_pos d2, d3, d4, refValue_eq a (any_unfair h1) hl, Option.bind_some]
            exact asrt_pos (by simp only [List.length_cons, List.length_nil]; omega)
          · intro vs
            show ref09_Norm_l4 l _ vs _ = _
            simp only [ref09_Norm_l4, idx_end, cond_false]
        · simp
      · rintro i a r ps ha ⟨g1, g2⟩
        obtain ⟨d1, d2, d3, d4⟩ := idx ha (by omega)
        simp only [List.length_cons] at g2
        have hbod : ref09_Norm_l5 l ps i = if outT a then some (.inr (.inr ([], 13))) else if a.At < 1125899906842624 then (s_ref09_With ps a.At).bind (fun x => some (.inl (x, ((i + 1 : Nat) : Int)))) else some (.inl (ps, ((i + 1 : Nat) : Int))) := by
          simp only [ref09_Norm_l5, ref09_Norm_j6, d1, cond_true, asrt_pos d2, d3, d4]
          rw [asrt_pos (fun _ => d2)]
          unfold outT
          cases (decide (a.At < -1) || decide (1125899906842624 < a.At))
          · by_cases c : a.At < 1125899906842624 <;> simp [c]
          · simp
        cases ho : outT a
        · left
          rw [ho] at hbod
          have ho' : -1 ≤ a.At ∧ a.At ≤ 1125899906842624 := by simp [outT] at ho; omega
          by_cases c : a.At < 1125899906842624
          · have hlen := withL_len (t := a.At) (ps := ps)
            refine ⟨withL a.At ps, ?_, ⟨withL_inc g1 (by omega) c, by omega⟩, ?_⟩
            · show ref09_Norm_l5 l ps i = _
              rw [hbod, with_eq g1 (by omega)]; simp [c]
            · simp only [List.any_cons, ho, Bool.false_or]
              have hf : (a :: r).filter (fun j => decide (j.At < 1125899906842624)) = a :: r.filter (fun j => decide (j.At < 1125899906842624)) := by simp [c]
              rw [hf]; rfl
          · refine ⟨ps, ?_, ⟨g1, by omega⟩, ?_⟩
            · show ref09_Norm_l5 l ps i = _
              rw [hbod]; simp [c]
            · simp only [List.any_cons, ho, Bool.false_or]
              have hf : (a :: r).filter (fun j => decide (j.At < 1125899906842624)) = r.filter (fun j => decide (j.At < 1125899906842624)) := by simp [c]
              rw [hf]
        · right
          rw [ho] at hbod
          show ref09_Norm_l5 l ps i = _
          rw [hbod]; simp [ho]
      · intro ps _
        show ref09_Norm_l5 l ps _ = _
        simp only [ref09_Norm_l5, idx_end, cond_false]
        simp [putL]
    · simp
  · intro i a ha
    obtain ⟨d1, d2, d3, d4⟩ := idx ha (by omega)
    show ref09_Norm_l7 l i = _
    simp only [ref09_Norm_l7, d1, cond_true, asrt_pos d2, d3, d4]
    rw [asrt_pos (fun _ => d2)]
    unfold unfair fairB
    by_cases c1 : 1048576 < a.Net
    · have : ¬ a.Net ≤ 1048576 := by omega
      simp [c1, this]
    · have c1' : a.Net ≤ 1048576 := by omega
      by_cases c2 : a.Net < -1048576
      · have : ¬ -1048576 ≤ a.Net := by omega
        simp [c1', c1, c2, this]
      · have : -1048576 ≤ a.Net := by omega
        simp [c1', c1, c2, this]
  · show ref09_Norm_l7 l _ = _
    simp only [ref09_Norm_l7, idx_end, cond_false]

end Go.Abs
