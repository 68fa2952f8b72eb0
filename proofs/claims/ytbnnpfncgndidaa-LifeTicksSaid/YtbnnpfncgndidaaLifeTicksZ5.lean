/- What the law LifeTicks stands on: the framework, the given functions as plain functions, their walks, and the plain laws; part 5. -/
import Derived.Test.YtbnnpfncgndidaaLifeTicksZ4
set_option linter.unusedSimpArgs false
set_option linter.unusedVariables false
namespace Go.Abs
open Go
theorem CP {d frm t : Int} (hd : 1 ≤ d) (ht : t < 1125899906842624) : ∀ f : List aB, val (tS d frm f) t = had d frm t f
  | [] => rfl
  | j :: f => by
    rw [OT, zC, CW, CP hd ht f]
    congr 1
    by_cases h : 0 < j.Net ∧ frm ≤ j.At
    · rw [if_pos h, cF, cF, pI]
      have he : AZ d j.At ≤ t ↔ j.At + d ≤ t := by unfold AZ; split <;> omega
      by_cases h1 : j.At ≤ t
      · by_cases h2 : j.At + d ≤ t
        · rw [if_pos h1, if_pos (he.2 h2), if_neg (by omega)]; simp only; omega
        · rw [if_pos h1, if_neg (fun h => h2 (he.1 h)), if_pos (by omega)]; omega
      · rw [if_neg h1, if_neg (fun h => by have := he.1 h; omega), if_neg (by omega)]; omega
    · rw [if_neg h, if_neg (by omega), pI]

def mG (l : List aC) (d frm : Int) : List aC × Int :=
  if (!sD l || decide (d < 1)) || decide (1099511627776 < d) then ([], 2) else if !tJ l then ([], 20) else if decide (frm < 0) || decide (1125899906842624 < frm) then ([], 13) else jT (rO d frm l)

theorem AY (d frm : Int) : ∀ l : List aC, (rO d frm l).length ≤ 2 * l.length
  | [] => by simp [rO]
  | x :: l => by
    rw [yL, List.length_append, List.length_cons]
    have := AY d frm l
    split <;> simp <;> omega

theorem QZ {d frm : Int} {l : List aC} {e : aC} (h : e ∈ rO d frm l) : ∃ x ∈ l, 0 < x.Net ∧ frm ≤ x.At ∧ (e = x ∨ e = ⟨x.Row, AZ d x.At, -x.Net⟩) := by
  obtain ⟨x, hx, h1⟩ := List.mem_flatMap.1 h
  split at h1
  · rename_i h2
    refine ⟨x, hx, h2.1, h2.2, ?_⟩
    simpa using h1
  · simp at h1

theorem GO {d frm : Int} {l : List aC} (hl : okL l) (h : l.length ≤ 4096) : okL (rO d frm l) :=
  ⟨by have := AY d frm l; omega, fun e he => by
    obtain ⟨x, hx, _, _, h1⟩ := QZ he
    have := hl.2 x hx
    rcases h1 with rfl | rfl <;> exact this⟩

theorem FN {l : List aC} (hl : okL l) (d frm : Int) : nL l d frm = some (mG l d frm) := by
  unfold nL mG
  rw [TY hl]
  simp only [Option.bind_some]
  cases h1 : (!sD l || decide (d < 1)) || decide (1099511627776 < d)
  · simp only [Bool.or_eq_false_iff, Bool.not_eq_false', decide_eq_false_iff_not] at h1
    simp only [cond_false, QJ hl, Option.bind_some, Bool.false_eq_true, if_false]
    cases h2 : tJ l
    · simp
    · simp only [Bool.not_true, cond_false, Bool.false_eq_true, if_false]
      cases h3 : decide (frm < 0) || decide (1125899906842624 < frm)
      · simp only [Bool.or_eq_false_iff, decide_eq_false_iff_not] at h3
        simp only [cond_false, Bool.false_eq_true, if_false]
        have hn := (sO h1.1.1).1
        rw [bB ⟨by omega, by omega, by omega⟩]
        unfold tM
        rw [tX (l := l) (body := fun s : List aC × Int => lW frm d l (l.length : Nat) s.1 s.2) (fun o i => (o, i)) (fun o t => o ++ rO d frm t) (fun o t => o.length + 2 * t.length ≤ 8192 ∧ ∀ e ∈ t, e ∈ l) [] ?_ ?_ ⟨by simp; omega, fun e he => he⟩]
        · simp only [Option.bind_some, qJ, List.nil_append]
          have := AY d frm l
          rw [SE (GO hl hn) (by omega)]; rfl
        · rintro i x t o hi ⟨g1, g2⟩
          left
          obtain ⟨d1, d2, d3, d4⟩ := idx hi (by omega)
          have hx := OV h1.1.1 (g2 x (by simp))
          simp only [List.length_cons] at g1
          have w1 : IntKind.i64.wrap (x.At + d) = x.At + d := iF (by omega) (by omega)
          have w2 : IntKind.i64.wrap (0 - x.Net) = -x.Net := by rw [iF (by omega) (by omega)]; omega
          have hb : lW frm d l (l.length : Nat) o (i : Int) = some (.inl (o ++ (if 0 < x.Net ∧ frm ≤ x.At then [x, ⟨x.Row, AZ d x.At, -x.Net⟩] else []), ((i + 1 : Nat) : Int))) := by
            simp only [lW, pR, d1, cond_true, bB d2, d3, d4, rN, w1, w2, Option.bind_some]
            by_cases c1 : 0 < x.Net
            · by_cases c2 : frm ≤ x.At
              · simp only [c1, c2, decide_true, Bool.and_self, cond_true, and_self, if_true]
                rw [bB (by simp only [List.length_cons, List.length_nil]; omega)]; rfl
              · simp [c1, c2]
            · simp [c1]
          refine ⟨_, hb, ⟨by rw [List.length_append]; split <;> simp <;> omega, fun e he => g2 e (by simp [he])⟩, ?_⟩
          rw [yL, List.append_assoc]
        · rintro o _
          show lW _ _ _ _ _ _ = _
          simp only [lW, kS, cond_false]
          simp [rO]
      · simp
  · simp

end Go.Abs
namespace Go.Abs
open Go
theorem PW {f : List aB} {d frm t : Int} (hb : ∀ j ∈ f, j.Net ≤ 1048576 ∧ -1048576 ≤ j.Net) (hl : f.length ≤ 1099511627776) (hd : 1 ≤ d ∧ d ≤ 1099511627776) (ht : -2 ≤ t ∧ t ≤ 1125899906842624) : rL f d frm t = some (had d frm t f) := by
  unfold rL tQ
  have w : IntKind.i64.wrap (t - d) = t - d := iF (by omega) (by omega)
  rw [tX (l := f) (body := fun s : Int × Int => lV f d frm t s.1 s.2) (fun v i => (v, i)) (fun v r => v + had d frm t r)
    (fun v r => (∀ j ∈ r, j.Net ≤ 1048576 ∧ -1048576 ≤ j.Net) ∧ r.length ≤ 1099511627776 ∧ v ≤ 1048576 * (1099511627776 - r.length) ∧ -(1048576 * (1099511627776 - r.length)) ≤ v) 0 ?_ ?_ ?_]
  · simp [qD]
  · rintro i a r v ha ⟨h1, h2, h3, h4⟩
    have hlt := (List.getElem?_eq_some_iff.1 ha).1
    obtain ⟨d1, d2, d3, d4⟩ := idx ha (by omega)
    have hj := h1 a (List.mem_cons_self ..)
    simp only [List.length_cons] at h2 h3 h4
    have hw : IntKind.i64.wrap (v + a.Net) = v + a.Net := iF (by omega) (by omega)
    left
    have hb' : lV f d frm t v (i : Int) = some (.inl (v + (if 0 < a.Net ∧ frm ≤ a.At ∧ a.At ≤ t ∧ t - d < a.At then a.Net else 0), ((i + 1 : Nat) : Int))) := by
      simp only [lV, qL, d1, cond_true, bB d2, d3, d4, hw, w]
      rw [bB (fun _ => d2), bB (fun _ => d2), bB (fun _ => d2)]
      by_cases c1 : 0 < a.Net <;> by_cases c2 : frm ≤ a.At <;> by_cases c3 : a.At ≤ t <;> by_cases c4 : t - d < a.At <;> simp [c1, c2, c3, c4]
    refine ⟨_, hb', ⟨fun j hj => h1 j (List.mem_cons_of_mem _ hj), by omega, by split <;> omega, by split <;> omega⟩, ?_⟩
    rw [CW]; omega
  · rintro v _
    show lV _ _ _ _ _ _ = _
    simp only [lV, kS, cond_false]
    simp [had]
  · exact ⟨hb, hl, by omega, by omega⟩

theorem PA {l : List aC} (hl : okL l) (d frm : Int) : okL (mG l d frm).1 := by
  unfold mG
  split
  · exact xT
  · rename_i h
    split
    · exact xT
    · split
      · exact xT
      · simp only [Bool.or_eq_true, Bool.not_eq_true', decide_eq_true_eq, not_or, Bool.not_eq_false] at h
        exact QL (GO hl (sO h.1.1).1)

theorem DG {l : List aC} {d frm : Int} (h : (mG l d frm).2 = 0) : sD l = true ∧ tJ l = true ∧ 1 ≤ d ∧ d ≤ 1099511627776 ∧ 0 ≤ frm ∧ frm ≤ 1125899906842624 ∧ mG l d frm = jT (rO d frm l) := by
  unfold mG at h ⊢
  split at h
  · simp at h
  · rename_i c1
    rw [if_neg c1]
    split at h
    · simp at h
    · rename_i c2
      rw [if_neg c2]
      split at h
      · simp at h
      · rename_i c3
        rw [if_neg c3]
        simp only [Bool.or_eq_true, Bool.not_eq_true', decide_eq_true_eq, not_or, Bool.not_eq_false] at c1 c2 c3
        exact ⟨c1.1.1, c2, by omega, by omega, by omega, by omega, rfl⟩

theorem PO {l : List aC} {d frm t : Int} (h : (mG l d frm).2 = 0) (r : List aF) (h1 : -2 < t) (h2 : t < 1125899906842624) : val (bY (mG l d frm).1 r) t = had d frm t (bY l r) := by
  obtain ⟨_, _, g1, _, _, _, g2⟩ := DG h
  rw [g2] at h ⊢
  rw [QS h r h1 h2, wN, CP g1 h2]

theorem MB {l : List aC} {d frm : Int} (h : (mG l d frm).2 = 0) : tJ (mG l d frm).1 = true := by
  obtain ⟨_, _, g1, _, _, _, g2⟩ := DG h
  rw [g2] at h ⊢
  refine LO h fun r t _ h2 => ?_
  rw [wN, CP g1 h2]; exact EH ..

theorem OQ {l : List aC} {d frm : Int} (h : (mG l d frm).2 ≠ 0) : (mG l d frm).1 = [] := by
  unfold mG at h ⊢
  split
  · rfl
  · rename_i c1
    rw [if_neg c1] at h
    split
    · rfl
    · rename_i c2
      rw [if_neg c2] at h
      split
      · rfl
      · rename_i c3
        rw [if_neg c3] at h
        exact EJ h

theorem TI : mG [⟨[vL], 2, 1⟩, ⟨[vL], 5, 1⟩, ⟨[vL], 6, -1⟩, ⟨[vL], 9, -1⟩] 4 0 = ([⟨[vL], 2, 1⟩, ⟨[vL], 5, 1⟩, ⟨[vL], 6, -1⟩, ⟨[vL], 9, -1⟩], 0) := by decide +kernel

theorem SQ : mG [] 0 0 = ([], 2) := by decide +kernel

theorem zT : nW = some true := by
  unfold nW
  have k1 : okL [⟨[vL], 2, 1⟩, ⟨[vL], 5, 1⟩, ⟨[vL], 6, -1⟩, ⟨[vL], 9, -1⟩] := VV (by simp) (by simp)
  have h1 := (FN k1 4 0).trans (congrArg some TI)
  have h2 := (FN xT 0 0).trans (congrArg some SQ)
  unfold vL at h1
  rw [h1, h2]
  simp [bB]

end Go.Abs
namespace Go.Abs
open Go
theorem FJ (l0 : (List aC)) (m0 : ∀ a ∈ l0, rB a) (y0 : List.length l0 * 40 ≤ 140737488351232) (a1 : Int) (w1 : sV a1) (a2 : Int) (w2 : sV a2) (a3 : Int) (w3 : sV a3) : nO l0 a1 a2 a3 = some true := by
  have k0 := VX m0 y0
  have kn := PA k0 a1 a2
  unfold nO
  rw [FN k0]
  simp only [Option.bind_some]
  by_cases e : (mG l0 a1 a2).2 = 0
  · cases c : ((((!decide ((mG l0 a1 a2).2 = (0 : Int))) || (decide ((200 : Int) < ((List.length l0 : Nat) : Int)))) || (decide (a3 < (0 : Int)))) || (decide ((1125899906842624 : Int) ≤ a3)))
    · simp only [Bool.or_eq_false_iff, decide_eq_false_iff_not] at c
      obtain ⟨⟨⟨_, c1⟩, c2⟩, c3⟩ := c
      obtain ⟨hm, _, d1, d2, f1, f2, _⟩ := DG e
      have hm2 := (EN.1 (MB e)).1
      simp only [cond_false, nG]
      rw [VK (l := l0) (fun i => i) (fun _ => false) (.inr false) (.inl ()) ?_ ?_]
      · simp [lU, zT]
      · intro i x hi
        obtain ⟨e1, e2, e3, e4⟩ := idx hi (by omega)
        have hl2 := (sO hm2).1
        show hM _ _ _ _ _ _ = _
        simp only [hM, e1, cond_true, bB e2, e3, e4, CI k0 (show l0.length ≤ 1099511627776 by omega), CI kn (show (mG l0 a1 a2).1.length ≤ 1099511627776 by omega), Option.bind_some]
        have hf := EE hm x.Row
        rw [PW (CQ hf) (by have := (sL.1 hf).1; omega) ⟨d1, d2⟩ ⟨by omega, by omega⟩, KI (EE hm2 x.Row), PO e x.Row (by omega) (by omega)]
        simp
      · show hM _ _ _ _ _ _ = _
        simp only [hM, kS, cond_false]
    · simp [zT, e]
  · simp [zT, e, OQ e]

end Go.Abs
