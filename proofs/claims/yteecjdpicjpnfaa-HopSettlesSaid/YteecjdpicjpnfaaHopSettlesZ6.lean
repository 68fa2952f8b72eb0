/- What the law HopSettles stands on: the framework, the given functions as plain functions, their walks, and the plain laws; part 6. -/
import Derived.Test.YteecjdpicjpnfaaHopSettlesZ5
set_option linter.unusedSimpArgs false
set_option linter.unusedVariables false
namespace Go.Abs
open Go
theorem RU {l m : List aM} {size hop frm front T : Int} (ok : OkH size hop frm front) (hl : lF l = true) (hm : lF m = true) (tl : uH l = true) (tm : uH m = true) (h : ∀ r, jL T (gR l r) = jL T (gR m r)) :
    (AZ size hop frm front (groups l)).filter (fun p => decide (p.Span.To ≤ T)) = (AZ size hop frm front (groups m)).filter fun p => decide (p.Span.To ≤ T) := by
  have hs := ok.s0
  have same : ∀ x, x < 1125899906842624 → fJ size x ≤ T → ∀ r, eK (gR l r) x (fJ size x) = eK (gR m r) x (fJ size x) := fun x hx he r => by
    have hlt : x < fJ size x := by unfold fJ; omega
    rw [EI (lP.1 (yK hl r)).2 hlt he, EI (lP.1 (yK hm r)).2 hlt he, h r]
  unfold AZ
  rw [List.filter_map, List.filter_map]
  have hB : (wV size hop frm front (groups l)).filter (fun x => decide (fJ size x ≤ T)) = (wV size hop frm front (groups m)).filter fun x => decide (fJ size x ≤ T) := by
    refine LI ((LW ok _).filter _) ((LW ok _).filter _) fun x => ?_
    rw [List.mem_filter, List.mem_filter, DO hl tl ok, DO hm tm ok]
    constructor
    · rintro ⟨⟨a, r, b⟩, c⟩
      have c' : fJ size x ≤ T := by simpa using c
      exact ⟨⟨a, r, by rw [← same x a.2.2.2.2 c' r]; exact b⟩, c⟩
    · rintro ⟨⟨a, r, b⟩, c⟩
      have c' : fJ size x ≤ T := by simpa using c
      exact ⟨⟨a, r, by rw [same x a.2.2.2.2 c' r]; exact b⟩, c⟩
  have e : ∀ gs : List G1, ((fun p : aS => decide (p.Span.To ≤ T)) ∘ fun t => (⟨⟨t, fJ size t⟩, tM size t gs⟩ : aS)) = fun x => decide (fJ size x ≤ T) := fun gs => rfl
  rw [e, e, hB]
  refine List.map_congr_left fun x hx => ?_
  obtain ⟨h1, h2⟩ := List.mem_filter.1 hx
  have h3 : fJ size x ≤ T := by simpa using h2
  have h4 := ((DO hm tm ok).1 h1).1.2.2.2.2
  rw [WL hl hm (same x h4 h3)]

theorem JP {l : List aM} {t : Int} (ht : 1125899906842624 ≤ t) (h : (oH l t).2 = 0) : (oH l t).1 = l := by
  have hm := (yS h).1
  have h1 := fun r => MU (by1 := fun f => ahead f t) (l := l) (by unfold ahead; rw [if_pos ht]; split <;> rfl) h r
  refine aAJ (yO h) hm fun r => ?_
  rw [jV (yO h), jV hm]
  have h2 := h1 r
  rw [jV hm] at h2
  have h3 := jV (yO h) r
  have h4 : (ahead (gR l r) t).1 = gR l r := by
    unfold ahead
    rw [if_pos (yK hm r), if_pos ht]
  rw [← h3]
  unfold oH at h3 ⊢
  rw [h2, h4]

end Go.Abs
namespace Go.Abs
open Go
theorem WH {l : List aM} (m : ∀ a ∈ l, pN a) (y : List.length l * 40 ≤ 140737488351232) : okL l :=
  ⟨by omega, fun e he => by have := (m e he).1.2; omega⟩

end Go.Abs
namespace Go.Abs
open Go
theorem GB {ps : List aS} (hl : ps.length ≤ 1000000) (t : Int) : nY ps t = some (ps.filter fun p => decide (p.Span.To ≤ t)) := by
  unfold nY sD
  have := yQ (l := ps) (body := fun s : List aS × Int => lX ps t s.1 s.2) (fun (s : List aS) i => (s, i)) (fun s r => s ++ r.filter fun p => decide (p.Span.To ≤ t)) (fun s r => s.length + r.length ≤ 1000000) [] ?_ ?_ (by simp only [List.length_nil]; omega)
  · rw [this]; simp [oW]
  · intro i p r s hp hs
    left
    simp only [List.length_cons] at hs
    obtain ⟨d1, d2, d3, d4⟩ := idx hp (by omega)
    by_cases h : p.Span.To ≤ t
    · refine ⟨s ++ [p], ?_, by simp only [List.length_append, List.length_cons, List.length_nil]; omega, by simp [h]⟩
      simp only [lX, nC, d1, cond_true, aP d2, d3, d4, h, decide_true]
      rw [aP (by simp only [List.length_cons, List.length_nil]; omega)]
    · refine ⟨s, ?_, by omega, by simp [h]⟩
      simp only [lX, nC, d1, cond_true, aP d2, d3, d4, h, decide_false, cond_false]
  · intro s _
    simp only [lX, lC, cond_false]; simp

theorem IQ (l0 : (List aM)) (m0 : ∀ a ∈ l0, pN a) (y0 : List.length l0 * 40 ≤ 140737488351232) (l1 : (List aM)) (m1 : ∀ a ∈ l1, pN a) (y1 : List.length l1 * 40 ≤ 140737488351232) (a2 : Int) (w2 : vS a2) (a3 : Int) (w3 : vS a3) (a4 : Int) (w4 : vS a4) : oZ l0 l1 a2 a3 a4 = some true := by
  have k0 := WH m0 y0
  have k1 := WH m1 y1
  unfold oZ
  rw [MD k0, MD k1]
  simp only [Option.bind_some]
  by_cases e1 : (oH l0 a4).2 = 0
  · by_cases e2 : (oH l1 a4).2 = 0
    · simp only [e1, e2, decide_true, Bool.not_true, Bool.or_self, Bool.not_false, cW, cond_true, SQ (VH k0 a4), Option.bind_some, Bool.false_or]
      by_cases e3 : (oH l0 a4).1 = (oH l1 a4).1
      · simp only [e3, decide_true, Bool.not_true, cond_false, AX k0, AX k1, Option.bind_some]
        by_cases p1 : (nA l0 a2 a3 0 a4).2 = 0
        · by_cases p2 : (nA l1 a2 a3 0 a4).2 = 0
          · obtain ⟨u1, u2⟩ := FU k0 a2 a3 0 a4
            obtain ⟨v1, v2⟩ := FU k1 a2 a3 0 a4
            obtain ⟨hm, ml, tl, t1, t2, z1⟩ := JD p1
            obtain ⟨_, mm, tm, _, _, z2⟩ := JD p2
            have ok := VG hm t1 t2
            have hk := yD t2
            have hfore : ∀ r, jL a4 (gR l0 r) = jL a4 (gR l1 r) := fun r => by
              by_cases hF : a4 < 1125899906842624
              · rw [← IA, ← IA (gR l1 r), ← ED hk.1 hF e1, ← ED hk.1 hF e2, e3]
              · rw [JP (by omega) e1, JP (by omega) e2] at e3
                rw [e3]
            have hs := RU ok ml mm tl tm hfore
            simp only [p1, p2, decide_true, Bool.not_true, Bool.or_self, cond_false, uZ, Option.bind_some, cond_true]
            have hfl := List.length_filter_le (fun p : aS => decide (p.Span.To ≤ a4)) (nA l0 a2 a3 0 a4).1
            rw [GB (by omega), GB (by omega), Option.bind_some, Option.bind_some]
            have hsame : (nA l0 a2 a3 0 a4).1.filter (fun p => decide (p.Span.To ≤ a4)) = (nA l1 a2 a3 0 a4).1.filter fun p => decide (p.Span.To ≤ a4) := by
              rw [z1, z2]; exact hs
            rw [← hsame, QU (by omega) (fun p hp => u2 p (List.mem_filter.1 hp).1)]
            rfl
          · simp [p1, p2, uZ]
        · simp [p1, uZ]
      · simp [e3, uZ]
    · simp [e2, cW, uZ]
  · simp [e1, cW, uZ]

end Go.Abs
