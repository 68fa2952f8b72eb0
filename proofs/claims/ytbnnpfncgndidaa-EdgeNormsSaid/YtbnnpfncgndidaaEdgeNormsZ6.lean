/- What the law EdgeNorms stands on: the framework, the given functions as plain functions, their walks, and the plain laws; part 6. -/
import Derived.Test.YtbnnpfncgndidaaEdgeNormsZ5
set_option linter.unusedSimpArgs false
set_option linter.unusedVariables false
namespace Go.Abs
open Go
theorem insR_len (r : List api_Value) : ∀ rs : List (List api_Value), (insR r rs).length ≤ rs.length + 1
  | [] => by simp [insR]
  | x :: xs => by
    unfold insR
    split
    · simp only [List.length_cons]; have := insR_len r xs; omega
    · split <;> simp

/-- How many rows are ahead of one. -/
def posR (r : List api_Value) : List (List api_Value) → Nat
  | [] => 0
  | x :: xs => if cmpR x r < 0 then posR r xs + 1 else 0

theorem posR_le (r : List api_Value) : ∀ rs, posR r rs ≤ rs.length
  | [] => by simp [posR]
  | x :: xs => by unfold posR; split <;> simp [posR_le r xs]

theorem insR_pos (r : List api_Value) : ∀ rs, insR r rs = if rs[posR r rs]? = some r then rs else rs.take (posR r rs) ++ [r] ++ rs.drop (posR r rs)
  | [] => by simp [insR]
  | x :: xs => by
    unfold insR posR
    by_cases h : cmpR x r < 0
    · rw [if_pos h, if_pos h, insR_pos r xs]
      simp only [List.getElem?_cons_succ, List.take_succ_cons, List.drop_succ_cons]
      split <;> simp
    · rw [if_neg h, if_neg h]
      by_cases e : x = r <;> simp [e]

theorem rows_inner {l : List api_Edge} {rs : List (List api_Value)} {e : api_Edge} {i : Nat} (hi : l[i]? = some e) (hl : okL l) (he : rMay e.Row = true) (hr : ∀ x ∈ rs, rMay x = true) (hn : rs.length ≤ 1099511627776) : ∀ (t : List (List api_Value)) (k : Nat), rs.drop k = t → k ≤ rs.length →
    lp (fun s : List (List api_Value) × Int => ref10_Rows_l5 l (i : Int) s.1 s.2) (rs, (k : Int)) = some (rs, ((k + posR e.Row t : Nat) : Int))
  | [], k, hd, hk => by
    have : k = rs.length := by
      have := congrArg List.length hd
      simp only [List.length_drop, List.length_nil] at this; omega
    subst this
    refine lp_last ?_
    show ref10_Rows_l5 _ _ _ _ = _
    simp only [ref10_Rows_l5, idx_end, gcall, cond_false, Option.bind_some, Bool.false_and]
    rw [asrt_pos (fun h => by cases h), asrt_pos (fun h => by cases h)]
    simp [posR]
  | x :: t, k, hd, hk => by
    obtain ⟨h1, h2⟩ := drop_cons hd
    have hlt := (List.getElem?_eq_some_iff.1 h1).1
    obtain ⟨d1, d2, d3, d4⟩ := idx h1 (by omega)
    obtain ⟨_, c2, c3, _⟩ := idx hi (by have := hl.1; omega)
    have hx := hr x (List.mem_of_getElem? h1)
    have hb : (fun s : List (List api_Value) × Int => ref10_Rows_l5 l (i : Int) s.1 s.2) (rs, (k : Int)) = some (if cmpR x e.Row < 0 then .inl (rs, ((k + 1 : Nat) : Int)) else .inr (rs, (k : Int))) := by
      show ref10_Rows_l5 _ _ _ _ = _
      simp only [ref10_Rows_l5, d1, gcall, cond_true, d3, c3, d4, Bool.true_and]
      rw [asrt_pos (fun _ => d2), asrt_pos (fun _ => c2), refRowCmp_eq x e.Row (by have := (rMay_is hx).1; omega) (by have := (rMay_is he).1; omega), hx, he]
      simp only [Bool.and_self, if_true, Option.bind_some]
      by_cases h : cmpR x e.Row < 0 <;> simp [h]
    unfold posR
    by_cases h : cmpR x e.Row < 0
    · rw [if_pos h] at hb
      rw [lp_next hb, rows_inner hi hl he hr hn t (k + 1) h2 (by omega), if_pos h]
      congr 3; omega
    · rw [if_neg h] at hb
      rw [lp_last hb, if_neg h]; rfl

theorem refRows_eq {l : List api_Edge} (hl : okL l) (hm : ∀ e ∈ l, rMay e.Row = true) (hn : l.length ≤ 1099511627776) : s_ref10_Rows l = some (rowsOf l) := by
  unfold s_ref10_Rows ref10_Rows_h2
  rw [lp_suf0 (l := l) (body := fun s : List (List api_Value) × Int => ref10_Rows_l2 l s.1 s.2) (fun o i => (o, i)) (fun o t => t.foldl (fun rs e => insR e.Row rs) o) (fun o t => o.length + t.length ≤ 1099511627776 ∧ ∀ x ∈ o, rMay x = true) [] ?_ ?_ ⟨by simpa using hn, by simp⟩]
  · rfl
  · rintro i e t rs hi ⟨h1, h2⟩
    left
    obtain ⟨d1, d2, d3, d4⟩ := idx hi (by omega)
    have he := hm e (List.mem_of_getElem? hi)
    simp only [List.length_cons] at h1
    refine ⟨insR e.Row rs, ?_, ⟨by have := insR_len e.Row rs; omega, fun x hx => by
      rcases insR_mem.1 hx with rfl | h
      · exact he
      · exact h2 x h⟩, rfl⟩
    show ref10_Rows_l2 _ _ _ = _
    have hin := rows_inner hi hl he h2 (by omega) rs 0 rfl (Nat.zero_le _)
    simp only [Int.natCast_zero, Nat.zero_add] at hin
    have hple := posR_le e.Row rs
    simp only [ref10_Rows_l2, d1, cond_true, ref10_Rows_h5, hin, Option.bind_some, ref10_Rows_j4, ref10_Rows_j3, d3, d4]
    rw [insR_pos]
    by_cases hp : posR e.Row rs < rs.length
    · have hx : rs[posR e.Row rs]? = some rs[posR e.Row rs] := List.getElem?_eq_getElem hp
      obtain ⟨f1, f2, f3, _⟩ := idx hx (by omega)
      have hrow := h2 _ (List.mem_of_getElem? hx)
      simp only [f1, f3, gcall, cond_true, Bool.true_and]
      rw [asrt_pos (fun _ => f2), asrt_pos (fun _ => d2), refRowSame_eq _ _ (by have := (rMay_is hrow).1; omega)]
      by_cases hq : rs[posR e.Row rs] = e.Row
      · simp [hq, hx]
      · simp only [hq, decide_false, cond_false, Option.bind_some, hx, Option.some.injEq, if_false, Int.toNat_natCast]
        rw [asrt_pos ⟨by omega, by omega⟩, asrt_pos ⟨by simp; omega, by simp; omega⟩, asrt_pos d2, asrt_pos ⟨by simp; omega, by simp; omega⟩, asrt_pos ⟨by omega, by omega⟩, asrt_pos ⟨by simp; omega, by simp; omega⟩]
    · have hpe : posR e.Row rs = rs.length := by omega
      rw [hpe]
      simp only [idx_end, gcall, cond_false, Option.bind_some, Bool.false_and]
      rw [asrt_pos (fun h => by cases h), asrt_pos (fun h => by cases h)]
      have hnone : rs[rs.length]? = none := by simp
      simp only [hnone, reduceCtorEq, if_false, Int.toNat_natCast]
      rw [asrt_pos ⟨by omega, by omega⟩, asrt_pos ⟨by simp; omega, by simp; omega⟩, asrt_pos d2, asrt_pos ⟨by simp; omega, by simp; omega⟩, asrt_pos ⟨by omega, by omega⟩, asrt_pos ⟨by simp; omega, by simp; omega⟩]
  · rintro rs ⟨_, _⟩
    show ref10_Rows_l2 _ _ _ = _
    simp only [ref10_Rows_l2, idx_end, cond_false]
    rfl

theorem rowsOf_len_le : ∀ (l : List api_Edge) (rs : List (List api_Value)), (l.foldl (fun rs e => insR e.Row rs) rs).length ≤ rs.length + l.length
  | [], rs => by simp
  | e :: l, rs => by
    have := rowsOf_len_le l (insR e.Row rs)
    have := insR_len e.Row rs
    simp only [List.foldl_cons, List.length_cons]; omega

theorem rowsOf_len (l : List api_Edge) : (rowsOf l).length ≤ l.length := by
  have := rowsOf_len_le l []
  simpa [rowsOf] using this

theorem jumpsOf_len (l : List api_Edge) (r : List api_Value) : (jumpsOf l r).length ≤ l.length := by
  unfold jumpsOf; rw [List.length_map]; exact List.length_filter_le _ _

end Go.Abs
namespace Go.Abs
open Go
def allG (by1 : List api_Jump → List api_Jump × Int) : List (List api_Value × List api_Jump) → List api_Edge → List api_Edge × Int
  | [], out => (out, 0)
  | g :: gs, out => if (by1 g.2).2 ≠ 0 then ([], (by1 g.2).2) else allG by1 gs (out ++ flatJ g.1 (by1 g.2).1)

def finG (x : List api_Edge × Int) : List api_Edge × Int := if x.2 = 0 ∧ 4096 < x.1.length then ([], 7) else x

theorem allG_big {by1 : List api_Jump → List api_Jump × Int} : ∀ {gs : List (List api_Value × List api_Jump)} {out : List api_Edge}, (∀ g ∈ gs, (by1 g.2).2 = 0 ∨ (by1 g.2).2 = 7) → 4096 < out.length → finG (allG by1 gs out) = ([], 7)
  | [], out, _, h => by simp [allG, finG, h]
  | g :: gs, out, he, h => by
    unfold allG
    rcases he g (by simp) with e | e
    · rw [if_neg (by simp [e])]
      exact allG_big (fun q hq => he q (by simp [hq])) (by rw [List.length_append]; omega)
    · rw [if_pos (by simp [e]), e]; simp [finG]

theorem finG_eq {by1 : List api_Jump → List api_Jump × Int} : ∀ {gs : List (List api_Value × List api_Jump)} {out : List api_Edge}, (∀ g ∈ gs, (by1 g.2).2 = 0 ∨ (by1 g.2).2 = 7) → out.length ≤ 4096 → finG (allG by1 gs out) = mapG by1 gs out
  | [], out, _, h => by
    have : ¬ 4096 < out.length := by omega
    simp [allG, finG, mapG, this]
  | g :: gs, out, he, h => by
    unfold allG mapG
    rcases he g (by simp) with e | e
    · rw [if_neg (by simp [e]), if_neg (by simp [e])]
      by_cases hl : 4096 < (out ++ flatJ g.1 (by1 g.2).1).length
      · rw [if_pos hl]; exact allG_big (fun q hq => he q (by simp [hq])) hl
      · rw [if_neg hl]; exact finG_eq (fun q hq => he q (by simp [hq])) (by omega)
    · rw [if_pos (by simp [e]), if_pos (by simp [e]), e]; simp [finG]

/-- A loop over rows. -/
theorem rows_lp {by1 : List api_Jump → List api_Jump × Int} {J : List api_Value → List api_Jump} {rs : List (List api_Value)} {body : List api_Edge × Int → Option ((List api_Edge × Int) ⊕ (List api_Edge ⊕ (List api_Edge × Int)))} (h1 : ∀ f, (by1 f).1.length ≤ 1024) (hn : rs.length ≤ 1000000)
    (hb : ∀ (i : Nat) r out, rs[i]? = some r → out.length ≤ 1024000000 → body (out, (i : Int)) = some (if (by1 (J r)).2 ≠ 0 then .inr (.inr ([], (by1 (J r)).2)) else .inl (out ++ flatJ r (by1 (J r)).1, ((i + 1 : Nat) : Int))))
    (he : ∀ out, body (out, (rs.length : Nat)) = some (.inr (.inl out))) : ∃ x, lp body ([], 0) = some x ∧ Sum.elim (fun o => (o, (0 : Int))) id x = allG by1 (rs.map fun r => (r, J r)) [] ∧ (∀ o, x = .inl o → o.length ≤ 1024000000) ∧ ∀ o, x = .inr o → o.2 ≠ 0 := by
  refine ⟨_, lp_suf0 (l := rs) (body := body) (fun o i => (o, i)) (fun o t => if (allG by1 (t.map fun r => (r, J r)) o).2 = 0 then .inl (allG by1 (t.map fun r => (r, J r)) o).1 else .inr (allG by1 (t.map fun r => (r, J r)) o)) (fun o t => o.length + 1024 * t.length ≤ 1024000000) [] ?_ ?_ (by simp; omega), ?_, ?_, ?_⟩
  · intro i r t o hi hl
    simp only [List.length_cons] at hl
    have := hb i r o hi (by omega)
    have h2 := h1 (J r)
    by_cases e : (by1 (J r)).2 ≠ 0
    · right
      rw [if_pos e] at this
      rw [this]
      simp only [List.map_cons, allG, if_pos e, if_neg e]
    · left
      rw [if_neg e] at this
      refine ⟨_, this, by rw [List.length_append, flatJ_len]; omega, ?_⟩
      simp only [List.map_cons, allG, if_neg e]
  · intro o _
    rw [he o]
    simp [allG]
  · cases h : (allG by1 (rs.map fun r => (r, J r)) []) with
    | mk a b =>
      by_cases e : b = 0
      · simp [e]
      · simp [e]
  · intro o ho
    have key : ∀ (gs : List (List api_Value)) (out : List api_Edge), out.length + 1024 * gs.length ≤ 1024000000 → (allG by1 (gs.map fun r => (r, J r)) out).1.length ≤ 1024000000 := by
      intro gs
      induction gs with
      | nil => intro out h; simpa [allG] using h
      | cons r gs ih =>
        intro out h
        simp only [List.map_cons, allG]
        split
        · simp
        · refine ih _ ?_
          have := h1 (J r)
          simp only [List.length_cons] at h
          rw [List.length_append, flatJ_len]; omega
    split at ho
    · simp only [Sum.inl.injEq] at ho
      rw [← ho]; exact key rs [] (by simp; omega)
    · cases ho
  · intro o ho
    split at ho
    · cases ho
    · rename_i h
      simp only [Sum.inr.injEq] at ho
      rw [← ho]; exact h

theorem finI {j : List api_Edge → Option (List api_Edge × Int)} {y : List api_Edge × Int} {x : List api_Edge ⊕ (List api_Edge × Int)} (hj : ∀ o : List api_Edge, o.length ≤ 1024000000 → j o = some (if 4096 < o.length then ([], 7) else (o, 0))) (hx : Sum.elim (fun o => (o, (0 : Int))) id x = y) (hl : ∀ o, x = .inl o → o.length ≤ 1024000000) (hy : ∀ o, x = .inr o → o.2 ≠ 0) : Sum.elim (fun o => j o) (fun rr : List api_Edge × Int => some (rr.1, rr.2)) x = some (finG y) := by
  cases x with
  | inl o =>
    simp only [Sum.elim_inl] at hx ⊢
    rw [hj o (hl o rfl), ← hx]
    unfold finG
    by_cases h : 4096 < o.length <;> simp [h]
  | inr o =>
    simp only [Sum.elim_inr, id] at hx ⊢
    subst hx
    have := hy o rfl
    simp [finG, this]

theorem normF_err {f : List api_Jump} (h1 : f.any unfair = false) (h2 : f.any outT = false) : (normF f).2 = 0 ∨ (normF f).2 = 7 := by
  unfold normF
  rw [if_neg (by simp [h1]), if_neg (by simp [h2])]
  unfold told
  split <;> simp

theorem any_unE_jumps {l : List api_Edge} (h1 : l.any unE = false) (h2 : l.any outE = false) (r : List api_Value) : (jumpsOf l r).any unfair = false ∧ (jumpsOf l r).any outT = false := by
  constructor
  · refine List.any_eq_false.2 fun j hj => ?_
    obtain ⟨e, he, rfl⟩ := List.mem_map.1 hj
    have := any_unE h1 e (List.mem_filter.1 he).1
    have h3 : (jE e).Net = e.Net := rfl
    simp only [unfair, fairB, h3, Bool.not_eq_true', Bool.and_eq_false_iff, decide_eq_false_iff_not, not_or, Decidable.not_not, Bool.not_eq_false, Bool.and_eq_true, decide_eq_true_eq]
    omega
  · refine List.any_eq_false.2 fun j hj => ?_
    obtain ⟨e, he, rfl⟩ := List.mem_map.1 hj
    have := List.any_eq_false.1 h2 e (List.mem_filter.1 he).1
    have h3 : (jE e).At = e.At := rfl
    simp only [outE, Bool.or_eq_true, decide_eq_true_eq, not_or] at this
    simp only [outT, h3, Bool.or_eq_true, decide_eq_true_eq]
    omega

end Go.Abs
namespace Go.Abs
open Go
theorem gsOf_err {l : List api_Edge} (h1 : l.any unE = false) (h2 : l.any outE = false) : ∀ g ∈ gsOf l, (normF g.2).2 = 0 ∨ (normF g.2).2 = 7 := by
  intro g hg
  obtain ⟨r, _, rfl⟩ := List.mem_map.1 hg
  exact normF_err (any_unE_jumps h1 h2 r).1 (any_unE_jumps h1 h2 r).2

theorem refNormE_eq {l : List api_Edge} (hl : okL l) (hn : l.length ≤ 1000000) : s_ref10_Norm l = some (normE l) := by
  unfold s_ref10_Norm ref10_Norm_h6 normE
  rw [lp_any (l := l) (fun i => i) unE (.inr ([], 2)) (.inl ()) ?_ ?_]
  · cases h1 : l.any unE
    · simp only [Bool.false_eq_true, if_false, Option.bind_some, Sum.elim_inl, ref10_Norm_j1, ref10_Norm_h5]
      rw [lp_any (l := l) (fun i => i) outE (.inr ([], 13)) (.inl ()) ?_ ?_]
      · cases h2 : l.any outE
        · have hr := refRows_eq hl (fun e he => (any_unE h1 e he).1) (by omega)
          simp only [Bool.false_eq_true, if_false, Option.bind_some, Sum.elim_inl, ref10_Norm_j2, hr, ref10_Norm_h4]
          have hR := rows_lp (by1 := normF) (J := jumpsOf l) (rs := rowsOf l) (body := fun s => ref10_Norm_l4 l (rowsOf l) s.1 s.2) normF_len (by have := rowsOf_len l; omega) ?_ ?_
          · obtain ⟨x, e1, e2, e3, e4⟩ := hR
            rw [e1]
            simp only [Option.bind_some]
            have hj : ∀ o : List api_Edge, o.length ≤ 1024000000 → ref10_Norm_j3 o = some (if 4096 < o.length then ([], 7) else (o, 0)) := by
              intro o _
              unfold ref10_Norm_j3
              by_cases h : 4096 < o.length
              · have h' : (4096 : Int) < ((o.length : Nat) : Int) := by omega
                simp [h, h']
              · have h' : ¬ (4096 : Int) < ((o.length : Nat) : Int) := by omega
                simp [h, h']
            exact (finI hj e2 e3 e4).trans (congrArg some (finG_eq (gsOf_err h1 h2) (by simp)))
          · intro i r out hi ho
            have := rowsOf_len l
            have hlt := (List.getElem?_eq_some_iff.1 hi).1
            obtain ⟨d1, d2, d3, d4⟩ := idx hi (by omega)
            have hrow : rMay r = true := by
              obtain ⟨e, he, rfl⟩ := rowsOf_mem.1 (List.mem_of_getElem? hi)
              exact (any_unE h1 e he).1
            have h8 := (rMay_is hrow).1
            have hjl := jumpsOf_len l r
            have hnl := normF_len (jumpsOf l r)
            show ref10_Norm_l4 _ _ _ _ = _
            simp only [ref10_Norm_l4, d1, cond_true, asrt_pos d2, d3, d4, refJumps_eq hl (show l.length ≤ 1099511627776 by omega), Option.bind_some, refNorm_eq (show (jumpsOf l r).length ≤ 1099511627776 by omega)]
            by_cases e : (normF (jumpsOf l r)).2 = 0
            · rw [refPut_eq (by omega) (by omega)]
              simp [e]
            · simp [e]
          · intro out
            show ref10_Norm_l4 _ _ _ _ = _
            simp only [ref10_Norm_l4, idx_end, cond_false]
        · simp
      · intro i e hi
        obtain ⟨d1, d2, d3, d4⟩ := idx hi (by omega)
        show ref10_Norm_l5 _ _ = _
        simp only [ref10_Norm_l5, d1, cond_true, asrt_pos d2, d3, d4]
        rw [asrt_pos (fun _ => d2)]
        unfold outE
        cases h : (decide (e.At < -1) || decide (1125899906842624 < e.At)) <;> simp
      · show ref10_Norm_l5 _ _ = _
        simp only [ref10_Norm_l5, idx_end, cond_false]
    · simp
  · intro i e hi
    obtain ⟨d1, d2, d3, d4⟩ := idx hi (by omega)
    have hr := hl.2 e (List.mem_of_getElem? hi)
    show ref10_Norm_l6 _ _ = _
    simp only [ref10_Norm_l6, d1, cond_true, asrt_pos d2, d3, d4, refRMay_eq e.Row (by omega), Option.bind_some]
    rw [asrt_pos (fun _ => d2), asrt_pos (fun _ => d2)]
    unfold unE
    cases h : (((!rMay e.Row) || decide (1048576 < e.Net)) || decide (e.Net < -1048576)) <;> simp
  · show ref10_Norm_l6 _ _ = _
    simp only [ref10_Norm_l6, idx_end, cond_false]

abbrev ltE (x y : api_Edge) : Prop := cmpR x.Row y.Row < 0 ∨ (x.Row = y.Row ∧ x.At < y.At)

theorem ltE_trans {x y z : api_Edge} (h1 : ltE x y) (h2 : ltE y z) : ltE x z := by
  rcases h1 with h1 | ⟨h1, h1'⟩ <;> rcases h2 with h2 | ⟨h2, h2'⟩
  · exact .inl (cmpR_ord.trans _ _ _ h1 h2)
  · exact .inl (h2 ▸ h1)
  · exact .inl (h1 ▸ h2)
  · exact .inr ⟨h1.trans h2, by omega⟩

theorem rise_pair : ∀ {f : List api_Jump} {last : Int}, Rise last f ↔ (∀ j ∈ f, badJ last j = false) ∧ f.Pairwise fun a b => a.At < b.At
  | [], last => by simp [Rise]
  | j :: f, last => by
    rw [List.pairwise_cons]
    unfold Rise
    rw [← badJ_false]
    constructor
    · rintro ⟨h1, h2⟩
      have h3 := rise_pair.1 h2
      have h4 := badJ_false.1 h1
      refine ⟨fun k hk => ?_, fun k hk => (badJ_false.1 (h3.1 k hk)).1, h3.2⟩
      rcases List.mem_cons.1 hk with rfl | hk
      · exact h1
      · have := badJ_false.1 (h3.1 k hk)
        exact badJ_false.2 (by omega)
    · rintro ⟨h1, h2, h3⟩
      refine ⟨h1 j (by simp), rise_pair.2 ⟨fun k hk => ?_, h3⟩⟩
      have := badJ_false.1 (h1 k (by simp [hk]))
      have := h2 k hk
      exact badJ_false.2 (by omega)

theorem mayE_iff {l : List api_Edge} : mayE l = true ↔ l.length ≤ 4096 ∧ (∀ e ∈ l, rMay e.Row = true ∧ badJ (-2) (jE e) = false) ∧ l.Pairwise ltE ∧ ∀ r ∈ rowsOf l, (jumpsOf l r).length ≤ 1024 := by
  constructor
  · intro h
    obtain ⟨h1, h2, h3⟩ := mayE_is h
    refine ⟨h1, fun e he => ?_, ?_, fun r _ => (may_iff.1 (mayE_jumps h r)).1⟩
    · obtain ⟨a, b, c, d, e1, e2⟩ := mayE_edges h he
      exact ⟨a, badJ_false.2 ⟨b, c, d, e1, e2⟩⟩
    · rw [← groups_flat l]
      unfold flat
      rw [List.flatMap, List.pairwise_flatten, List.pairwise_map]
      constructor
      · intro x hx
        obtain ⟨g, hg, rfl⟩ := List.mem_map.1 hx
        have := (rise_pair.1 (may_iff.1 (h2 g hg).2).2).2
        rw [flatJ, List.pairwise_map]
        exact this.imp fun h => .inr ⟨rfl, h⟩
      · refine h3.imp fun {a b} h x hx y hy => ?_
        obtain ⟨j, _, rfl⟩ := List.mem_map.1 hx
        obtain ⟨k, _, rfl⟩ := List.mem_map.1 hy
        exact .inl h
  · rintro ⟨h1, h2, h3, h4⟩
    have hs : Srt leE l := h3.imp fun h => by
      rcases h with h | ⟨h, h'⟩
      · exact .inl h
      · exact .inr ⟨h, by omega⟩
    have hg := groups_srt hs
    unfold mayE
    rw [Bool.and_eq_true]
    refine ⟨by simpa using h1, eachB_iff.2 ⟨fun g hg' => ?_, hg, fun q hq => by cases hq⟩⟩
    obtain ⟨_, e, he, h5⟩ := groups_mem hg'
    have hj : g.2 = jumpsOf l g.1 := by rw [← look_jumps hg, look_mem hg hg']
    refine ⟨by rw [h5]; exact (h2 e he).1, ?_⟩
    rw [hj]
    refine may_iff.2 ⟨h4 _ (rowsOf_mem.2 ⟨e, he, h5.symm⟩), rise_pair.2 ⟨fun j hj => ?_, ?_⟩⟩
    · obtain ⟨e, he, rfl⟩ := List.mem_map.1 hj
      exact (h2 e (List.mem_filter.1 he).1).2
    · unfold jumpsOf
      rw [List.pairwise_map, List.pairwise_filter]
      refine h3.imp fun {a b} h ha hb => ?_
      rcases h with h | ⟨_, h⟩
      · simp only [decide_eq_true_eq] at ha hb
        rw [ha, hb] at h
        exact absurd h cmpR_irr
      · exact h

theorem pair_adj {α : Type} {R : α → α → Prop} (ht : ∀ {x y z}, R x y → R y z → R x z) {l : List α} : l.Pairwise R ↔ ∀ (i : Nat) (a b : α), l[i]? = some a → l[i + 1]? = some b → R a b := by
  constructor
  · intro h i a b ha hb
    obtain ⟨h1, rfl⟩ := List.getElem?_eq_some_iff.1 ha
    obtain ⟨h2, rfl⟩ := List.getElem?_eq_some_iff.1 hb
    exact List.pairwise_iff_getElem.1 h i (i + 1) h1 h2 (by omega)
  · intro h
    refine List.pairwise_iff_getElem.2 fun i j hi hj hij => ?_
    obtain ⟨k, rfl⟩ : ∃ k, j = i + 1 + k := ⟨j - i - 1, by omega⟩
    clear hij
    induction k with
    | zero => exact h i _ _ (List.getElem?_eq_getElem hi) (List.getElem?_eq_getElem hj)
    | succ k ih => exact ht (ih (by omega)) (h (i + 1 + k) _ _ (List.getElem?_eq_getElem (by omega)) (List.getElem?_eq_getElem hj))

def cmpQ (a b : List api_Value) : Int := if rMay a && rMay b then cmpR a b else 0

def badAt (l : List api_Edge) (i : Nat) : Bool := !(rMay (l.getD i default).Row && !badJ (-2) (jE (l.getD i default))) || (decide (i ≠ 0) && (decide (0 < cmpQ (l.getD (i - 1) default).Row (l.getD i default).Row) || (decide (cmpQ (l.getD (i - 1) default).Row (l.getD i default).Row = 0) && decide ((l.getD i default).At ≤ (l.getD (i - 1) default).At))))

theorem badAt_any {l : List api_Edge} : (List.range l.length).any (badAt l) = false ↔ (∀ e ∈ l, rMay e.Row = true ∧ badJ (-2) (jE e) = false) ∧ l.Pairwise ltE := by
  rw [List.any_eq_false, pair_adj (R := ltE) (fun h1 h2 => ltE_trans h1 h2)]
  constructor
  · intro h
    have h' : ∀ i, i < l.length → badAt l i = false := fun i hi => by simpa using h i (List.mem_range.2 hi)
    refine ⟨fun e he => ?_, fun i a b ha hb => ?_⟩
    · obtain ⟨i, hi, rfl⟩ := List.mem_iff_getElem.1 he
      have := h' i hi
      unfold badAt at this
      rw [Bool.or_eq_false_iff] at this
      have h1 := this.1
      simp only [List.getD_eq_getElem?_getD, List.getElem?_eq_getElem hi, Option.getD_some, Bool.not_eq_false', Bool.and_eq_true, Bool.not_eq_true'] at h1
      exact h1
    · obtain ⟨hi, rfl⟩ := List.getElem?_eq_some_iff.1 ha
      obtain ⟨hj, rfl⟩ := List.getElem?_eq_some_iff.1 hb
      have := h' (i + 1) hj
      have r1 := h' i hi
      unfold badAt at this r1
      rw [Bool.or_eq_false_iff] at this r1
      have h1 := this.2
      have r2 := this.1
      have r1 := r1.1
      simp only [List.getD_eq_getElem?_getD, List.getElem?_eq_getElem hi, List.getElem?_eq_getElem hj, Option.getD_some, Bool.not_eq_false', Bool.and_eq_true, Bool.not_eq_true'] at r1 r2
      simp only [List.getD_eq_getElem?_getD, Nat.add_sub_cancel, List.getElem?_eq_getElem hi, List.getElem?_eq_getElem hj, Option.getD_some, ne_eq, Nat.add_eq_zero_iff, Nat.one_ne_zero, and_false, not_false_eq_true, decide_true, Bool.true_and, Bool.or_eq_false_iff, decide_eq_false_iff_not, Bool.and_eq_false_iff, cmpQ, r1.1, r2.1, Bool.and_self, if_true] at h1
      by_cases hc : cmpR l[i].Row l[i + 1].Row = 0
      · refine .inr ⟨(cmpR_ord.eq _ _).1 hc, ?_⟩
        rcases h1.2 with h | h
        · exact absurd hc h
        · omega
      · exact .inl (by omega)
  · rintro ⟨h1, h2⟩ i hi
    have hi := List.mem_range.1 hi
    unfold badAt
    have ge : l.getD i default = l[i] := by simp [List.getD_eq_getElem?_getD, hi]
    have := h1 l[i] (List.getElem_mem hi)
    rw [ge, this.1, this.2]
    by_cases h0 : i = 0
    · simp [h0]
    · have hi' : i - 1 < l.length := by omega
      have ge' : l.getD (i - 1) default = l[i - 1] := by simp [List.getD_eq_getElem?_getD, hi']
      have h3 := h2 (i - 1) l[i - 1] l[i] (List.getElem?_eq_getElem hi') (by rw [show i - 1 + 1 = i by omega]; exact List.getElem?_eq_getElem hi)
      rw [ge']
      have r1 := (h1 l[i - 1] (List.getElem_mem hi')).1
      unfold cmpQ
      rw [r1, this.1]
      rcases h3 with h3 | ⟨h3, h4⟩
      · have a : ¬ 0 < cmpR l[i - 1].Row l[i].Row := by omega
        have b : ¬ cmpR l[i - 1].Row l[i].Row = 0 := by omega
        simp [a, b]
      · have a : cmpR l[i - 1].Row l[i].Row = 0 := (cmpR_ord.eq _ _).2 h3
        have b : ¬ l[i].At ≤ l[i - 1].At := by omega
        simp [a, b]

theorem refMayE_eq {l : List api_Edge} (hl : okL l) : s_ref10_May l = some (mayE l) := by
  unfold s_ref10_May
  by_cases hn : l.length ≤ 4096
  · have h1 : decide ((4096 : Int) < ((l.length : Nat) : Int)) = false := by simp; omega
    rw [h1, cond_false]
    unfold ref10_May_h4
    have hlp := lp_any (body := fun s => ref10_May_l4 l s) (l := List.range l.length) (fun i => i) (badAt l) (.inr false) (.inl ()) ?_ ?_
    · rw [hlp]
      cases hb : (List.range l.length).any (badAt l)
      · obtain ⟨h2, h3⟩ := badAt_any.1 hb
        have hr := refRows_eq hl (fun e he => (h2 e he).1) (by omega)
        simp only [Bool.false_eq_true, if_false, Option.bind_some, Sum.elim_inl, ref10_May_j1, hr, ref10_May_h3]
        have hrl := rowsOf_len l
        rw [lp_any (l := rowsOf l) (fun i => i) (fun r => decide (1024 < (jumpsOf l r).length)) (.inr false) (.inl ()) ?_ ?_]
        · cases hc : (rowsOf l).any fun r => decide (1024 < (jumpsOf l r).length)
          · have : mayE l = true := mayE_iff.2 ⟨hn, h2, h3, fun r hr => by
              have := List.any_eq_false.1 hc r hr
              simp only [decide_eq_true_eq] at this; omega⟩
            rw [this]; rfl
          · have : mayE l = false := by
              rw [Bool.eq_false_iff]
              intro hm
              obtain ⟨r, hr, h4⟩ := List.any_eq_true.1 hc
              have := (mayE_iff.1 hm).2.2.2 r hr
              simp only [decide_eq_true_eq] at h4; omega
            rw [this]; rfl
        · intro i r hi
          obtain ⟨d1, d2, d3, d4⟩ := idx hi (by omega)
          show ref10_May_l3 _ _ _ = _
          simp only [ref10_May_l3, d1, cond_true, asrt_pos d2, d3, d4, refJumps_eq hl (show l.length ≤ 1099511627776 by omega), Option.bind_some]
          by_cases h : 1024 < (jumpsOf l r).length
          · have h' : (1024 : Int) < (((jumpsOf l r).length : Nat) : Int) := by omega
            simp [h, h']
          · have h' : ¬ (1024 : Int) < (((jumpsOf l r).length : Nat) : Int) := by omega
            simp [h, h']
        · show ref10_May_l3 _ _ _ = _
          simp only [ref10_May_l3, idx_end, cond_false]
      · have : mayE l = false := by
          rw [Bool.eq_false_iff]
          intro hm
          obtain ⟨_, h2, h3, _⟩ := mayE_iff.1 hm
          have := badAt_any.2 ⟨h2, h3⟩
          rw [this] at hb; cases hb
        rw [this]; rfl
    · intro i k hi
      obtain ⟨hi0, hk⟩ := List.getElem?_eq_some_iff.1 hi
      rw [List.getElem_range] at hk
      subst hk
      have hi1 : i < l.length := by simpa using hi0
      have hx := List.getElem?_eq_getElem hi1
      obtain ⟨d1, d2, d3, d4⟩ := idx hx (by omega)
      have hr := hl.2 _ (List.getElem_mem hi1)
      have ge : l.getD i default = l[i] := by simp [List.getD_eq_getElem?_getD, hi1]
      show ref10_May_l4 _ _ = _
      simp only [ref10_May_l4, d1, cond_true, asrt_pos d2, d3, refRMay_eq l[i].Row (by omega), Option.bind_some]
      rw [asrt_pos (fun _ => d2), asrt_pos (fun _ => d2)]
      have hm : s_ref09_May [⟨l[i].At, l[i].Net⟩] = some (!badJ (-2) (jE l[i])) := by
        rw [refMay_eq]
        simp only [mayB, chk, List.length_cons, List.length_nil, jE]
        cases badJ (-2) ⟨l[i].At, l[i].Net⟩ <;> rfl
      rw [hm]
      unfold badAt
      rw [ge]
      cases h2 : rMay l[i].Row
      · simp [gcall]
      · cases h3 : badJ (-2) (jE l[i])
        · simp only [gcall, Bool.not_true, Bool.not_false, cond_true, Option.bind_some, Bool.or_self, cond_false, Bool.and_self]
          by_cases h0 : i = 0
          · subst h0
            simp [ref10_May_j5, wrap_in]
          · have hi' : i - 1 < l.length := by omega
            have hw : IntKind.i64.wrap ((i : Int) - 1) = ((i - 1 : Nat) : Int) := by rw [wrap_in (by omega) (by omega)]; omega
            have hx' := List.getElem?_eq_getElem hi'
            obtain ⟨_, e2, e3, _⟩ := idx hx' (by omega)
            have ge' : l.getD (i - 1) default = l[i - 1] := by simp [List.getD_eq_getElem?_getD, hi']
            have hr' := hl.2 _ (List.getElem_mem hi')
            have hz : decide ((i : Int) = 0) = false := by simp; omega
            simp only [hz, cond_false, hw, asrt_pos e2, asrt_pos d2, e3, d3, ge']
            rw [refRowCmp_eq _ _ (by omega) (by omega), show (if (rMay l[i - 1].Row && rMay l[i].Row) = true then cmpR l[i - 1].Row l[i].Row else 0) = cmpQ l[i - 1].Row l[i].Row from rfl]
            simp only [Option.bind_some, ref10_May_j5, d4]
            rw [asrt_pos (fun _ => e2), asrt_pos (fun _ => d2)]
            generalize cmpQ l[i - 1].Row l[i].Row = c
            cases hz2 : (decide (0 < c) || (decide (c = 0) && decide (l[i].At ≤ l[i - 1].At)))
            · simp
            · simp [h0]
        · simp [gcall]
    · show ref10_May_l4 _ _ = _
      simp only [ref10_May_l4, List.length_range, idx_end, cond_false]
  · have h1 : decide ((4096 : Int) < ((l.length : Nat) : Int)) = true := by simp; omega
    rw [h1, cond_true]
    simp [mayE, hn]

end Go.Abs
namespace Go.Abs
open Go
theorem mn_fold {c : Int} : ∀ {l : List Int} {m : Int}, c ≤ l.foldl mn m ↔ c ≤ m ∧ ∀ x ∈ l, c ≤ x
  | [], m => by simp
  | a :: l, m => by
    rw [List.foldl_cons, mn_fold]
    unfold mn
    constructor
    · rintro ⟨h1, h2⟩
      have h3 : c ≤ m ∧ c ≤ a := by split at h1 <;> omega
      refine ⟨h3.1, fun x hx => ?_⟩
      rcases List.mem_cons.1 hx with rfl | hx
      · exact h3.2
      · exact h2 x hx
    · rintro ⟨h1, h2⟩
      have := h2 a (by simp)
      exact ⟨by split <;> omega, fun x hx => h2 x (by simp [hx])⟩

theorem val_parts {t : Int} : ∀ {f : List api_Jump} {l v : Int}, Rise l f → v + val f t = v ∨ v + val f t ∈ parts v f
  | [], l, v, _ => .inl (by simp [val])
  | j :: r, l, v, h => by
    unfold parts
    rw [val_cons]
    by_cases e : j.At ≤ t
    · rw [if_pos e]
      right
      rcases val_parts (t := t) (v := v + j.Net) h.2 with h1 | h1
      · rw [show v + (j.Net + val r t) = v + j.Net by omega]; simp
      · rw [show v + (j.Net + val r t) = v + j.Net + val r t by omega]; exact List.mem_cons_of_mem _ h1
    · left
      rw [if_neg e, h.2.val0 (by omega)]; omega

theorem least_iff {f : List api_Jump} (hf : mayB f = true) : 0 ≤ leastL f ↔ ∀ t, 0 ≤ val f t := by
  have hr := (may_iff.1 hf).2
  unfold leastL
  rw [mn_fold]
  constructor
  · rintro ⟨_, h2⟩ t
    rcases val_parts (t := t) (v := 0) hr with h | h
    · omega
    · rw [parts_eq hr] at h
      obtain ⟨j, hj, h⟩ := List.mem_map.1 h
      have := h2 _ (List.mem_map.2 ⟨j, hj, rfl⟩)
      omega
  · intro h
    refine ⟨h _, fun x hx => ?_⟩
    obtain ⟨j, _, rfl⟩ := List.mem_map.1 hx
    exact h _

theorem tableE_iff {l : List api_Edge} : tableE l = true ↔ mayE l = true ∧ ∀ r t, 0 ≤ val (jumpsOf l r) t := by
  constructor
  · intro h
    unfold tableE at h
    rw [Bool.and_eq_true, eachB_iff] at h
    obtain ⟨h1, h2, h3, _⟩ := h
    have hm : mayE l = true := by
      unfold mayE
      rw [Bool.and_eq_true]
      exact ⟨h1, eachB_iff.2 ⟨fun g hg => ⟨(h2 g hg).1, by have := (h2 g hg).2; unfold tabB at this; rw [Bool.and_eq_true] at this; exact this.1⟩, h3, fun q hq => by cases hq⟩⟩
    refine ⟨hm, fun r => ?_⟩
    rw [← look_jumps h3]
    rcases look_cases (groups l) r with ⟨e, _⟩ | ⟨g, hg, _, e⟩
    · rw [e]; intro t; simp [val]
    · rw [e]
      have := (h2 g hg).2
      unfold tabB at this
      rw [Bool.and_eq_true, decide_eq_true_eq] at this
      exact (least_iff this.1).1 this.2
  · rintro ⟨hm, h⟩
    obtain ⟨h1, h2, h3⟩ := mayE_is hm
    unfold tableE
    rw [Bool.and_eq_true]
    refine ⟨by simpa using h1, eachB_iff.2 ⟨fun g hg => ⟨(h2 g hg).1, ?_⟩, h3, fun q hq => by cases hq⟩⟩
    unfold tabB
    rw [Bool.and_eq_true, decide_eq_true_eq]
    refine ⟨(h2 g hg).2, (least_iff (h2 g hg).2).2 ?_⟩
    have : g.2 = jumpsOf l g.1 := by rw [← look_jumps h3, look_mem h3 hg]
    rw [this]; exact h g.1

theorem jumpsOf_none {l : List api_Edge} {r : List api_Value} (h : r ∉ rowsOf l) : jumpsOf l r = [] :=
  jumpsOf_nil fun e he hr => h (rowsOf_mem.2 ⟨e, he, hr⟩)

theorem refTableE_eq {l : List api_Edge} (hl : okL l) : s_ref10_Table l = some (tableE l) := by
  unfold s_ref10_Table
  rw [refMayE_eq hl]
  cases hm : mayE l
  · have : tableE l = false := by
      rw [Bool.eq_false_iff]; intro h
      rw [(tableE_iff.1 h).1] at hm; cases hm
    rw [this]; rfl
  · obtain ⟨h1, h2, _⟩ := mayE_iff.1 hm
    simp only [Option.bind_some, Bool.not_true, cond_false, refRows_eq hl (fun e he => (h2 e he).1) (show l.length ≤ 1099511627776 by omega), ref10_Table_h2]
    have hrl := rowsOf_len l
    rw [lp_any (l := rowsOf l) (fun i => i) (fun r => decide (leastL (jumpsOf l r) < 0)) (.inr false) (.inl ()) ?_ ?_]
    · cases hc : (rowsOf l).any fun r => decide (leastL (jumpsOf l r) < 0)
      · have : tableE l = true := tableE_iff.2 ⟨hm, fun r => by
          by_cases hr : r ∈ rowsOf l
          · have := List.any_eq_false.1 hc r hr
            simp only [decide_eq_true_eq] at this
            exact (least_iff (mayE_jumps hm r)).1 (by omega)
          · rw [jumpsOf_none hr]; intro t; simp [val]⟩
        rw [this]; rfl
      · have : tableE l = false := by
          rw [Bool.eq_false_iff]; intro h
          obtain ⟨r, _, hr⟩ := List.any_eq_true.1 hc
          simp only [decide_eq_true_eq] at hr
          have := (least_iff (mayE_jumps hm r)).2 ((tableE_iff.1 h).2 r)
          omega
        rw [this]; rfl
    · intro i r hi
      obtain ⟨d1, d2, d3, d4⟩ := idx hi (by omega)
      show ref10_Table_l2 _ _ _ = _
      simp only [ref10_Table_l2, d1, cond_true, asrt_pos d2, d3, d4, refJumps_eq hl (show l.length ≤ 1099511627776 by omega), Option.bind_some, refLeast_eq, mayE_jumps hm r, if_true]
      by_cases h : leastL (jumpsOf l r) < 0 <;> simp [h]
    · show ref10_Table_l2 _ _ _ = _
      simp only [ref10_Table_l2, idx_end, cond_false]

end Go.Abs
namespace Go.Abs
open Go
theorem pure_EdgeNorms (l0 : (List api_Edge)) (m0 : ∀ a ∈ l0, ok_api_Edge a) (y0 : List.length l0 * 40 ≤ 140737488351232) : s_law10_EdgeNorms l0 = some true := by
  have k0 := okL_in m0 y0
  unfold s_law10_EdgeNorms s_law10_few
  simp only [Option.bind_some]
  by_cases c : ((List.length l0 : Nat) : Int) ≤ 60
  · have kn := normE_okL k0
    simp only [decide_eq_true c, Bool.not_true, cond_false]
    rw [normE_eq k0 (by omega), refNormE_eq k0 (by omega)]
    simp only [Option.bind_some, decide_true, Bool.not_true, Bool.not_false, gcall, cond_true, edgeSame_of kn, Bool.or_self, live_eqE, mayE_eq k0, refMayE_eq k0, tableE_eq k0, refTableE_eq k0, mayE_eq kn, tableE_eq kn, refTableE_eq kn]
    by_cases e : (normE l0).2 = 0
    · simp [e, normE_may e]
    · simp [e]
  · simp [c, live_eqE]

end Go.Abs
