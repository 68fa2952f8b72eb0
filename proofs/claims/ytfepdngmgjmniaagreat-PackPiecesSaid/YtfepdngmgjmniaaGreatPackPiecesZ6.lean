/- What the law PackPieces stands on: the framework, the given functions as plain functions, their walks, and the plain laws; part 6. -/
import Derived.Test.YtfepdngmgjmniaaGreatPackPiecesZ5
set_option linter.unusedSimpArgs false
set_option linter.unusedVariables false
namespace Go.Abs
open Go
theorem WW {f : List aB} (hf : ∀ j ∈ f, j.Net ≤ 1048576) : iK f ≤ 1048576 * f.length := by
  induction f with
  | nil => simp [iK]
  | cons j f ih =>
    rw [xG, List.length_cons]
    have := ih fun k hk => hf k (by simp [hk])
    have := hf j (by simp)
    split <;> omega

theorem aAK {B E : List Int} {t : Int} (h : E.length < B.length) (hB : B.length ≤ 1000000) : mH t (pairs 0 B E) (E.length : Nat) = some (pairs 0 B (E ++ [t]), ((E.length + 1 : Nat) : Int)) := by
  unfold mH
  rw [bA ⟨by omega, by rw [wL]; omega⟩, Int.toNat_natCast, QY 0 t B E h, dV (by omega) (by omega)]
  rfl

theorem VB {f : List aB} {i : Int} {j : aB} {E : List Int} (t13 : Int) (hN : j.Net ≤ 4294967296) : ∀ (n : Nat) (k : Nat) (B : List Int), E.length ≤ B.length → j.Net.toNat = k + n → B.length + n ≤ 1000000 →
    lp (fun s : List aR × Int × aB × Int => lU f t13 i j.Net s.1 s.2.1 s.2.2.1 s.2.2.2) (pairs 0 B E, ((E.length : Nat) : Int), j, (k : Int)) = some (pairs 0 (B ++ List.replicate n j.At) E, ((E.length : Nat) : Int), j)
  | 0, k, B, _, hk, _ => by
    refine cM ?_
    show lU _ _ _ _ _ _ _ _ = _
    have : decide ((k : Int) < j.Net) = false := by simp; omega
    simp only [lU, this, cond_false, List.replicate_zero, List.append_nil]
  | n + 1, k, B, hE, hk, hB => by
    have h1 : decide ((k : Int) < j.Net) = true := by simp; omega
    have hb : (fun s : List aR × Int × aB × Int => lU f t13 i j.Net s.1 s.2.1 s.2.2.1 s.2.2.2) (pairs 0 B E, ((E.length : Nat) : Int), j, (k : Int)) = some (.inl (pairs 0 (B ++ [j.At]) E, ((E.length : Nat) : Int), j, ((k + 1 : Nat) : Int))) := by
      show lU _ _ _ _ _ _ _ _ = _
      simp only [lU, h1, cond_true]
      rw [bA (by rw [wL]; simp only [List.length_cons, List.length_nil]; omega), GX 0 j.At B E hE, dV (by omega) (by omega)]
      rfl
    rw [dL hb, VB t13 hN n (k + 1) (B ++ [j.At]) (by simp; omega) (by omega) (by simp; omega), List.append_assoc, List.replicate_succ]
    rfl

theorem aAB {f : List aB} {i : Int} {j : aB} {B : List Int} (t13 : Int) (hB : B.length ≤ 1000000) (hN : -4294967296 ≤ j.Net) : ∀ (n : Nat) (k : Nat) (E : List Int), (-j.Net).toNat = k + n → E.length + n ≤ B.length →
    lp (fun s : List aR × Int × aB × Int => lW f t13 i (-j.Net) s.1 s.2.1 s.2.2.1 s.2.2.2) (pairs 0 B E, ((E.length : Nat) : Int), j, (k : Int)) = some (pairs 0 B (E ++ List.replicate n j.At), ((E.length + n : Nat) : Int))
  | 0, k, E, hk, _ => by
    refine cM ?_
    show lW _ _ _ _ _ _ _ _ = _
    have : decide ((k : Int) < -j.Net) = false := by simp; omega
    simp only [lW, this, cond_false, List.replicate_zero, List.append_nil, Nat.add_zero]
  | n + 1, k, E, hk, hE => by
    have h1 : decide ((k : Int) < -j.Net) = true := by simp; omega
    have hb : (fun s : List aR × Int × aB × Int => lW f t13 i (-j.Net) s.1 s.2.1 s.2.2.1 s.2.2.2) (pairs 0 B E, ((E.length : Nat) : Int), j, (k : Int)) = some (.inl (pairs 0 B (E ++ [j.At]), (((E ++ [j.At]).length : Nat) : Int), j, ((k + 1 : Nat) : Int))) := by
      show lW _ _ _ _ _ _ _ _ = _
      simp only [lW, h1, cond_true, aAK (show E.length < B.length by omega) hB, Option.bind_some]
      rw [dV (by omega) (by omega)]
      simp
    rw [dL hb, aAB t13 hB hN n (k + 1) (E ++ [j.At]) (by omega) (by simp; omega), List.append_assoc, List.replicate_succ]
    have : (E ++ [j.At]).length + n = E.length + (n + 1) := by simp; omega
    rw [this]
    rfl

theorem XR {B : List Int} (hB : B.length ≤ 1000000) : ∀ (n : Nat) (E : List Int), E.length + n = B.length →
    lp (fun s : List aR × Int => lT s.1 s.2) (pairs 0 B E, ((E.length : Nat) : Int)) = some (pairs 1125899906842624 B E)
  | 0, E, h => by
    refine cM ?_
    show lT _ _ = _
    have : decide (((E.length : Nat) : Int) < (((pairs 0 B E).length : Nat) : Int)) = false := by simp [wL]; omega
    simp only [lT, this, cond_false]
    rw [NA 0 1125899906842624 B E (by omega)]
  | n + 1, E, h => by
    have h1 : decide (((E.length : Nat) : Int) < (((pairs 0 B E).length : Nat) : Int)) = true := by simp [wL]; omega
    have hb : (fun s : List aR × Int => lT s.1 s.2) (pairs 0 B E, ((E.length : Nat) : Int)) = some (.inl (pairs 0 B (E ++ [1125899906842624]), (((E ++ [1125899906842624]).length : Nat) : Int))) := by
      show lT _ _ = _
      simp only [lT, h1, cond_true, aAK (show E.length < B.length by omega) hB, Option.bind_some]
      simp
    rw [dL hb, XR hB n (E ++ [1125899906842624]) (by simp; omega)]
    rw [DM 1125899906842624 1125899906842624 B E, DM 1125899906842624 1125899906842624 B (E ++ [1125899906842624])]
    have : B.length - E.length = B.length - (E ++ [(1125899906842624 : Int)]).length + 1 := by simp; omega
    rw [this, List.replicate_succ, List.append_assoc]
    rfl

def pG (f : List aB) : List aR := pairs 1125899906842624 (kW f) (ends f)

theorem GQ : ∀ {f : List aB} {v : Int}, BX v f → ((ends f).length : Int) ≤ v + (kW f).length ∨ f = []
  | [], _, _ => .inr rfl
  | j :: r, v, h => by
    left
    rw [vN, lS, List.length_append, List.length_append, List.length_replicate, List.length_replicate]
    rcases GQ h.2 with h1 | h1
    · omega
    · subst h1
      have := h.1
      simp [kW, ends]
      omega

theorem aBu {f : List aB} (hf : fZ f = true) (hn : ∀ t, 0 ≤ val f t) (hm : iK f ≤ 1000000) : vK f = some (pG f) := by
  have hok := EO hf hn
  have hlen := (kT.1 hf).1
  have hb0 := BB f
  unfold vK
  rw [XZ hf]
  simp only [Option.bind_some]
  have h0 := vZ f
  rw [bA ⟨h0, by omega, by omega⟩]
  unfold yT
  have key := nX (l := f) (body := fun s : List aR × Int × Int => nD f (f.length : Nat) s.1 s.2.1 s.2.2) (fun (s : List Int × List Int) i => (pairs 0 s.1 s.2, ((s.2.length : Nat) : Int), i)) (fun s r => (pairs 0 (s.1 ++ kW r) (s.2 ++ ends r), (((s.2 ++ ends r).length : Nat) : Int)))
    (fun s r => s.2.length ≤ s.1.length ∧ BX ((s.1.length : Int) - s.2.length) r ∧ s.1.length + (kW r).length ≤ 1000000 ∧ ∀ j ∈ r, j.Net ≤ 1048576 ∧ -1048576 ≤ j.Net) ([], []) ?_ ?_ ⟨by simp, by simpa using hok, by simp; omega, zO hf⟩
  · simp only [pairs, List.length_nil, Int.natCast_zero, List.nil_append] at key
    rw [key]
    simp only [Option.bind_some, uL, zD]
    have he : (ends f).length ≤ (kW f).length := by
      rcases GQ hok with h | h
      · omega
      · subst h; simp [ends]
    rw [XR (by omega) ((kW f).length - (ends f).length) (ends f) (by omega)]
    rfl
  · rintro i j r ⟨B, E⟩ ha ⟨h1, h2, h3, h4⟩
    left
    simp only at h1 h2 h3
    obtain ⟨d1, d2, d3, d4⟩ := idx ha (by omega)
    have hj := h4 j (by simp)
    have hv := h2.1
    rw [lS, List.length_append, List.length_replicate] at h3
    have hw : IntKind.i64.wrap (0 - j.Net) = -j.Net := by rw [dV (by omega) (by omega)]; omega
    refine ⟨(B ++ List.replicate j.Net.toNat j.At, E ++ List.replicate (-j.Net).toNat j.At), ?_, ⟨by simp; omega, ?_, by simp; omega, fun k hk => h4 k (by simp [hk])⟩, ?_⟩
    · show nD _ _ _ _ _ = _
      simp only [nD, d1, cond_true, bA d2, d3, yV]
      have b1 := VB (f := f) (i := (i : Int)) (j := j) (E := E) (f.length : Nat) (by omega) j.Net.toNat 0 B h1 (by omega) (by omega)
      have e1 := aAB (f := f) (i := (i : Int)) (j := j) (B := B ++ List.replicate j.Net.toNat j.At) (f.length : Nat) (by simp; omega) (by omega) (-j.Net).toNat 0 E (by omega) (by simp; omega)
      simp only [Int.natCast_zero] at b1 e1
      rw [b1]
      simp only [Option.bind_some, uE, hw, yW]
      rw [e1]
      simp only [Option.bind_some, uJ, d4]
      simp
    · have : (((B ++ List.replicate j.Net.toNat j.At).length : Nat) : Int) - (((E ++ List.replicate (-j.Net).toNat j.At).length : Nat) : Int) = (B.length : Int) - E.length + j.Net := by simp; omega
      simp only
      rw [this]; exact h2.2
    · simp only [lS, vN, List.append_assoc]
  · rintro ⟨B, E⟩ _
    show nD _ _ _ _ _ = _
    simp only [nD, dR, cond_false]
    simp [kW, ends]

def OF (f : List aB) : List aR × Int := if !fZ f then ([], 2) else if decide (rD f < 0) then ([], 20) else if decide (4096 < iK f) then ([], 7) else (pG f, 0)

end Go.Abs
namespace Go.Abs
open Go
def rQ (r : List aF) (ss : List aR) : List aN := ss.map fun s => ⟨r, s⟩

def vD (gs : List (List aF × List aB)) : List aN := gs.flatMap fun g => rQ g.1 (pG g.2)

def oE (gs : List (List aF × List aB)) : Int := (gs.map fun g => iK g.2).sum

theorem DF (g : List aF × List aB) (gs : List (List aF × List aB)) : vD (g :: gs) = rQ g.1 (pG g.2) ++ vD gs := rfl

theorem AW (g : List aF × List aB) (gs : List (List aF × List aB)) : oE (g :: gs) = iK g.2 + oE gs := by simp [oE]

theorem AX : ∀ gs : List (List aF × List aB), 0 ≤ oE gs
  | [] => by simp [oE]
  | g :: gs => by rw [AW]; have := AX gs; have := vZ g.2; omega

theorem HH (f : List aB) : ((pG f).length : Int) = iK f := by rw [pG, wL, BB]

theorem FH : ∀ gs : List (List aF × List aB), ((vD gs).length : Int) = oE gs
  | [] => rfl
  | g :: gs => by
    rw [DF, AW, List.length_append, ← FH gs, ← HH]
    simp [rQ]

def pX (l : List aC) : List aN × Int := if !oW l then ([], 2) else if !pF l then ([], 20) else if decide (4096 < oE (groups l)) then ([], 7) else (vD (groups l), 0)

theorem VJ (l0 c : List aC) : ∀ (gs : List (List aF × List aB)) (n : Int), (∀ g ∈ gs, fZ g.2 = true) → 0 ≤ n → n + 1073741824 * gs.length ≤ 4611686018427387904 →
    itG (fun st t22 t23 => rnd (fun (s : Int) => nW l0 c s t22 t23) st) gs (.inl n) = some (.inl (n + oE gs))
  | [], n, _, _, _ => by simp [itG, oE]
  | g :: gs, n, hg, hn, hb => by
    have hm := hg g (by simp)
    have h0 := vZ g.2
    have h1 := WW (f := g.2) fun j hj => (zO hm j hj).1
    have h2 := (kT.1 hm).1
    simp only [List.length_cons] at hb
    have hw : IntKind.i64.wrap (n + iK g.2) = n + iK g.2 := dV (by omega) (by omega)
    have hl : nW l0 c n g.1 g.2 = some (.inl (n + iK g.2)) := by
      unfold nW
      rw [XZ hm]
      simp only [Option.bind_some, hw]
    simp only [itG, rnd, hl, Option.bind_some, Sum.isLeft_inl, if_true]
    have := VJ l0 c gs (n + iK g.2) (fun q hq => hg q (by simp [hq])) (by omega) (by omega)
    simp only [rnd] at this
    rw [this, AW, Int.add_assoc]

theorem aDd {r : List aF} (hr : r.length ≤ 4398046510976) (ss : List aR) (out : List aN) (h : out.length + ss.length ≤ 1000000) : sE out r ss ((ss.length : Nat) : Int) 0 = some (.inl (out ++ rQ r ss)) := by
  unfold sE
  rw [nX (l := ss) (body := fun s : List aN × Int => mK r ss (ss.length : Nat) s.1 s.2) (fun o i => (o, i)) (fun o t => o ++ rQ r t) (fun o t => o.length + t.length ≤ 1000000) out ?_ ?_ h]
  · rfl
  · intro i a t o ha hi
    left
    obtain ⟨d1, d2, d3, d4⟩ := idx ha (by omega)
    simp only [List.length_cons] at hi
    refine ⟨o ++ [⟨r, a⟩], ?_, by simp; omega, by simp [rQ]⟩
    show mK _ _ _ _ _ = _
    simp only [mK, d1, cond_true, bA d2, d3, d4, GS hr, Option.bind_some]
    exact bA (by simp only [List.length_cons, List.length_nil]; omega)
  · intro o _
    show mK _ _ _ _ _ = _
    simp only [mK, dR, cond_false]
    simp [rQ]

theorem PY (c : List aC) : ∀ (gs : List (List aF × List aB)) (out : List aN), (∀ g ∈ gs, fZ g.2 = true ∧ (∀ t, 0 ≤ val g.2 t) ∧ g.1.length ≤ 4398046510976) → out.length + oE gs ≤ 1000000 →
    itG (fun st t34 t35 => rnd (fun (s : List aN) => nU c s t34 t35) st) gs (.inl out) = some (.inl (out ++ vD gs))
  | [], out, _, _ => by simp [itG, vD]
  | g :: gs, out, hg, hb => by
    obtain ⟨hm, hn, hr⟩ := hg g (by simp)
    have h0 := vZ g.2
    have h1 := AX gs
    rw [AW] at hb
    have hs := HH g.2
    have hl : nU c out g.1 g.2 = some (.inl (out ++ rQ g.1 (pG g.2))) := by
      unfold nU
      rw [aBu hm hn (by omega)]
      simp only [Option.bind_some]
      rw [aDd hr _ _ (by omega)]
    simp only [itG, rnd, hl, Option.bind_some, Sum.isLeft_inl, if_true]
    have := PY c gs (out ++ rQ g.1 (pG g.2)) (fun q hq => hg q (by simp [hq])) (by simp only [List.length_append, rQ, List.length_map]; omega)
    simp only [rnd] at this
    rw [this, DF, List.append_assoc]

theorem CU : ∀ (l : List aC) (r : List aF) (f : List aB), (gA r f l).length ≤ l.length + 1
  | [], _, _ => by simp [gA]
  | e :: l, r, f => by
    rw [XQ]
    split
    · have := CU l r (f ++ [jE e]); simp only [List.length_cons]; omega
    · have := CU l e.Row [jE e]; simp only [List.length_cons]; omega

theorem ZU (l : List aC) : (groups l).length ≤ l.length := by
  cases l with
  | nil => simp [groups]
  | cons e l => exact CU l e.Row [jE e]

theorem qA {l : List aC} (ht : pF l = true) {g : List aF × List aB} (hg : g ∈ groups l) : fZ g.2 = true ∧ ∀ t, 0 ≤ val g.2 t := by
  obtain ⟨hm, hv⟩ := wS.1 ht
  obtain ⟨_, h2, h3⟩ := qX hm
  have : g.2 = bX l g.1 := by rw [← oF h3, vY h3 hg]
  exact ⟨(h2 g hg).2, by rw [this]; exact hv g.1⟩

theorem QT {l : List aC} (hl : okL l) : qW l = some (pX l) := by
  unfold qW pX
  rw [XH hl]
  cases hm : oW l
  · simp
  · simp only [Option.bind_some, Bool.not_true, cond_false, aAo hl, Bool.false_eq_true, if_false]
    cases ht : pF l
    · simp
    · have hn := (qX hm).1
      have hgl := ZU l
      have h0 := AX (groups l)
      simp only [Bool.not_true, cond_false, Bool.false_eq_true, if_false, qP, Option.bind_some, xC]
      have hc := VJ l l (groups l) 0 (fun g hg => (qA ht hg).1) (by omega) (by omega)
      rw [ON hl (s' := .inl (0 + oE (groups l))) (by rw [hm]; simpa using hc)]
      simp only [Option.bind_some, Sum.elim_inl, Int.zero_add]
      by_cases h7 : 4096 < oE (groups l)
      · simp [h7]
      · simp only [h7, decide_false, cond_false, Bool.false_eq_true, if_false]
        rw [bA ⟨h0, by omega, by omega⟩]
        unfold sP
        have hp := PY l (groups l) [] (fun g hg => ⟨(qA ht hg).1, (qA ht hg).2, QJ hl hg⟩) (by simp; omega)
        rw [ON hl (s' := .inl ([] ++ vD (groups l))) (by rw [hm]; simpa using hp)]
        rfl

def NL (s : aR) : Bool := SI s || ((decide (s.From = -1) && decide (0 ≤ s.To)) && decide (s.To ≤ 1125899906842624))

def xP (p : aN) : Bool := fX p.Row && NL p.Span

theorem XK (p : aN) : tL p = some (xP p) := by
  unfold tL xP
  rw [GJ]
  cases h : fX p.Row
  · simp [cO]
  · simp only [cO, cond_true, Option.bind_some, CA, YR, NL, Bool.true_and]

theorem QI {s : aR} : NL s = true ↔ -1 ≤ s.From ∧ s.From < s.To ∧ 0 ≤ s.To ∧ s.To ≤ 1125899906842624 := by
  unfold NL SI
  simp only [Bool.or_eq_true, Bool.and_eq_true, decide_eq_true_eq]
  omega

def okP (l : List aN) : Prop := l.length ≤ 3518437208783 ∧ ∀ e ∈ l, e.Row.length ≤ 4398046510976

theorem TB {l : List aN} {f : aN → Option Bool} {g : aN → Bool} (hl : l.length ≤ 1099511627776) (hf : ∀ x ∈ l, f x = some (g x)) : dJ l f = some (l.any g) := by
  unfold dJ fF eV
  obtain ⟨x, e, hx⟩ := DZ hl hf l 0 rfl (Nat.zero_le _)
  have e' : lp (fun s => eW f l (l.length : Nat) s) 0 = some x := e
  rw [e']
  rcases hx with ⟨rfl, h⟩ | ⟨i, rfl, _, _, h, _⟩
  · simp [dN, h]
  · simp [h]

def peL (l : List aN) : List aC := l.flatMap fun p => [⟨p.Row, p.Span.From, 1⟩, ⟨p.Row, p.Span.To, -1⟩]

theorem ME (p : aN) (l : List aN) : peL (p :: l) = [⟨p.Row, p.Span.From, 1⟩, ⟨p.Row, p.Span.To, -1⟩] ++ peL l := rfl

theorem YT (a b : List aN) : peL (a ++ b) = peL a ++ peL b := by simp [peL]

theorem PR : ∀ l : List aN, (peL l).length = 2 * l.length
  | [] => rfl
  | p :: l => by rw [ME, List.length_append, PR l]; simp; omega

theorem XW {l : List aN} (hl : okP l) (h : l.length ≤ 1000000) : okL (peL l) :=
  ⟨by rw [PR]; omega, fun e he => by
    obtain ⟨p, hp, h1⟩ := List.mem_flatMap.1 he
    have := hl.2 p hp
    simp only [List.mem_cons, List.not_mem_nil, or_false] at h1
    rcases h1 with rfl | rfl <;> exact this⟩

def vT (l : List aN) : List aC × Int := if l.any (fun p => !xP p) then ([], 2) else if decide (4096 < l.length) then ([], 7) else tH (peL l)

theorem QE {l : List aN} (hl : okP l) (hn : l.length ≤ 1099511627776) : sZ l = some (vT l) := by
  unfold sZ vT
  rw [TB (g := fun p => !xP p) hn (fun p _ => by simp [sN, XK])]
  simp only [Option.bind_some]
  cases h1 : l.any fun p => !xP p
  · simp only [cond_false, Bool.false_eq_true, if_false]
    by_cases h2 : 4096 < l.length
    · have h2' : (4096 : Int) < ((l.length : Nat) : Int) := by omega
      simp [h2, h2']
    · have h2' : ¬ (4096 : Int) < ((l.length : Nat) : Int) := by omega
      simp only [h2, h2', decide_false, cond_false, Bool.false_eq_true, if_false]
      have hw : IntKind.i64.wrap ((2 : Int) * ((l.length : Nat) : Int)) = 2 * ((l.length : Nat) : Int) := dV (by omega) (by omega)
      rw [hw, bA ⟨by omega, by omega, by omega⟩]
      unfold zG
      rw [nX (l := l) (body := fun s : List aC × Int => nJ l (l.length : Nat) s.1 s.2) (fun o i => (o, i)) (fun o t => o ++ peL t) (fun o t => o.length + 2 * t.length ≤ 1000000) [] ?_ ?_ (by simp; omega)]
      · simp only [Option.bind_some, List.nil_append, uN]
        rw [aBz (XW hl (by omega)) (by rw [PR]; omega)]
        rfl
      · intro i a t o ha hi
        left
        obtain ⟨d1, d2, d3, d4⟩ := idx ha (by omega)
        simp only [List.length_cons] at hi
        refine ⟨o ++ [⟨a.Row, a.Span.From, 1⟩, ⟨a.Row, a.Span.To, -1⟩], ?_, by simp; omega, by rw [ME]; simp⟩
        show nJ _ _ _ _ = _
        simp only [nJ, d1, cond_true, bA d2, d3, d4]
        exact bA (by simp only [List.length_cons, List.length_nil]; omega)
      · intro o _
        show nJ _ _ _ _ = _
        simp only [nJ, dR, cond_false]
        simp [peL]
  · simp

def SA (l : List aN) : List aN × Int := if (vT l).2 ≠ 0 then ([], (vT l).2) else pX (vT l).1

theorem ZK {l : List aN} (hl : okP l) : okL (vT l).1 := by
  unfold vT
  split
  · exact PJ
  · split
    · exact PJ
    · rename_i h
      exact aAH (XW hl (by simp at h; omega))

theorem TK {l : List aN} (hl : okP l) (hn : l.length ≤ 1099511627776) : uP l = some (SA l) := by
  unfold uP SA
  rw [QE hl hn]
  simp only [Option.bind_some]
  by_cases h : (vT l).2 = 0
  · simp only [h, decide_true, Bool.not_true, cond_false, QT (ZK hl), Option.bind_some, ne_eq, not_true_eq_false, if_false]
  · simp [h]

end Go.Abs
namespace Go.Abs
open Go
theorem OC {l : List aC} (h : oW l = true) (r : List aF) : look (groups l) r = bX l r := oF (qX h).2.2 r

end Go.Abs
namespace Go.Abs
open Go
def cnt (t : Int) (l : List Int) : Int := (l.map fun x => if x ≤ t then 1 else 0).sum

theorem HX (t x : Int) (l : List Int) : cnt t (x :: l) = (if x ≤ t then 1 else 0) + cnt t l := by simp [cnt]

theorem MM (t : Int) (a b : List Int) : cnt t (a ++ b) = cnt t a + cnt t b := by simp [cnt]

theorem CX (t x : Int) : ∀ n : Nat, cnt t (List.replicate n x) = if x ≤ t then (n : Int) else 0
  | 0 => by simp [cnt]
  | n + 1 => by rw [List.replicate_succ, HX, CX t x n]; split <;> omega

theorem XX (t : Int) : ∀ f : List aB, val f t = cnt t (kW f) - cnt t (ends f)
  | [] => rfl
  | j :: f => by
    rw [dD, lS, vN, MM, MM, CX, CX, XX t f]
    split <;> omega

def spJ (ss : List aR) : List aB := ss.flatMap fun s => [⟨s.From, 1⟩, ⟨s.To, -1⟩]

theorem UP (s : aR) (ss : List aR) : spJ (s :: ss) = [⟨s.From, 1⟩, ⟨s.To, -1⟩] ++ spJ ss := rfl

theorem KA (s : aR) (ss : List aR) (t : Int) : val (spJ (s :: ss)) t = (if s.From ≤ t then 1 else 0) - (if s.To ≤ t then 1 else 0) + val (spJ ss) t := by
  rw [UP, DB, dD, dD, sV]
  simp only
  split <;> split <;> omega

theorem JF {d t : Int} (ht : t < d) : ∀ (B E : List Int), E.length ≤ B.length → val (spJ (pairs d B E)) t = cnt t B - cnt t E
  | [], [], _ => rfl
  | [], _ :: _, h => by simp at h
  | b :: bs, [], _ => by
    rw [pairs, KA, JF ht bs [] (by simp), HX]
    have : ¬ d ≤ t := by omega
    simp only [this, if_false, cnt, List.map_nil, List.sum_nil]
    omega
  | b :: bs, e :: es, h => by
    rw [pairs, KA, JF ht bs es (by simpa using h), HX, HX]
    simp only
    omega

theorem XL {f : List aB} (h : BX 0 f) : (ends f).length ≤ (kW f).length := by
  rcases GQ h with h | h
  · omega
  · subst h; simp [ends]

theorem aAa {f : List aB} (h : BX 0 f) {t : Int} (ht : t < 1125899906842624) : val (spJ (pG f)) t = val f t := by
  rw [pG, JF ht _ _ (XL h), XX]

theorem KW (d e : Int) : ∀ (n : Nat) (Q B E : List Int), Q.length = n → pairs d (Q ++ B) (List.replicate n e ++ E) = Q.map (fun b => ⟨b, e⟩) ++ pairs d B E
  | 0, Q, B, E, h => by
    have : Q = [] := List.length_eq_zero_iff.1 h
    subst this; simp
  | n + 1, [], B, E, h => by simp at h
  | n + 1, q :: Q, B, E, h => by
    simp only [List.cons_append, List.replicate_succ, pairs, List.map_cons, KW d e n Q B E (by simpa using h)]

theorem LR {d : Int} : ∀ {f : List aB} {last : Int} {Q : List Int}, vA last f → BX (Q.length : Int) f → (∀ q ∈ Q, q ≤ last) → (∀ q ∈ Q, q < d) → (∀ j ∈ f, j.At < d) → ∀ s ∈ pairs d (Q ++ kW f) (ends f), s.From < s.To ∧ s.To ≤ d ∧ (s.From ∈ Q ∨ s.From ∈ kW f)
  | [], last, Q, _, _, hq, hd, _, s, hs => by
    simp only [kW, ends, List.flatMap_nil, List.append_nil] at hs ⊢
    have key : ∀ Q : List Int, (∀ q ∈ Q, q < d) → ∀ s ∈ pairs d Q [], s.From < s.To ∧ s.To ≤ d ∧ s.From ∈ Q := by
      intro Q
      induction Q with
      | nil => intro _ s hs; simp [pairs] at hs
      | cons q Q ih =>
        intro hd s hs
        rw [pairs] at hs
        rcases List.mem_cons.1 hs with rfl | hs
        · exact ⟨hd q (by simp), Int.le_refl _, by simp⟩
        · obtain ⟨h1, h2, h3⟩ := ih (fun x hx => hd x (by simp [hx])) s hs
          exact ⟨h1, h2, by simp [h3]⟩
    obtain ⟨h1, h2, h3⟩ := key Q hd s hs
    exact ⟨h1, h2, .inl h3⟩
  | j :: r, last, Q, hr, hv, hq, hd, hf, s, hs => by
    have hj := hr.1
    have hjd := hf j (by simp)
    by_cases hn : 0 < j.Net
    · have h0 : (-j.Net).toNat = 0 := by omega
      rw [lS, vN, h0, List.replicate_zero, List.nil_append, ← List.append_assoc] at hs
      obtain ⟨h1, h2, h3⟩ := LR (d := d) (Q := Q ++ List.replicate j.Net.toNat j.At) hr.2 (by
          have := hv.2
          rw [show (((Q ++ List.replicate j.Net.toNat j.At).length : Nat) : Int) = (Q.length : Int) + j.Net by simp; omega]
          exact this) (fun q hq' => by
          rcases List.mem_append.1 hq' with h | h
          · have := hq q h; omega
          · rw [(List.mem_replicate.1 h).2]; exact Int.le_refl _) (fun q hq' => by
          rcases List.mem_append.1 hq' with h | h
          · exact hd q h
          · rw [(List.mem_replicate.1 h).2]; exact hjd) (fun k hk => hf k (by simp [hk])) s hs
      refine ⟨h1, h2, ?_⟩
      rw [lS, List.mem_append]
      rcases h3 with h3 | h3
      · rcases List.mem_append.1 h3 with h | h
        · exact .inl h
        · exact .inr (.inl h)
      · exact .inr (.inr h3)
    · have h0 : j.Net.toNat = 0 := by omega
      have hlen : (-j.Net).toNat ≤ Q.length := by have := hv.1; omega
      rw [lS, vN, h0, List.replicate_zero, List.nil_append] at hs
      have hQ : Q = Q.take (-j.Net).toNat ++ Q.drop (-j.Net).toNat := (List.take_append_drop _ _).symm
      rw [hQ, List.append_assoc, KW d j.At _ _ _ _ (by simp; omega)] at hs
      rcases List.mem_append.1 hs with hs | hs
      · obtain ⟨q, hq', rfl⟩ := List.mem_map.1 hs
        have hm := List.mem_of_mem_take hq'
        have := hq q hm
        exact ⟨by simp only; omega, by simp only; omega, .inl hm⟩
      · obtain ⟨h1, h2, h3⟩ := LR (d := d) (Q := Q.drop (-j.Net).toNat) hr.2 (by
            have := hv.2
            rw [show (((Q.drop (-j.Net).toNat).length : Nat) : Int) = (Q.length : Int) + j.Net by simp; omega]
            exact this) (fun q hq' => by have := hq q (List.mem_of_mem_drop hq'); omega) (fun q hq' => hd q (List.mem_of_mem_drop hq')) (fun k hk => hf k (by simp [hk])) s hs
        refine ⟨h1, h2, ?_⟩
        rw [lS, h0, List.replicate_zero, List.nil_append]
        rcases h3 with h3 | h3
        · exact .inl (List.mem_of_mem_drop h3)
        · exact .inr h3

theorem VR {f : List aB} (hf : fZ f = true) (h : ∀ t, 0 ≤ val f t) {s : aR} (hs : s ∈ pG f) : NL s = true := by
  have hp := YJ hf
  obtain ⟨h1, h2, h3⟩ := LR (d := 1125899906842624) (Q := []) (kT.1 hf).2 (by simpa using EO hf h) (by simp) (by simp) (fun j hj => (hp j hj).2) s (by simpa [pG] using hs)
  rcases h3 with h3 | h3
  · simp at h3
  · obtain ⟨j, hj, h4⟩ := List.mem_flatMap.1 h3
    have e := (List.mem_replicate.1 h4).2
    have := hp j hj
    exact QI.2 (by omega)

theorem RK (q r : List aF) (ss : List aR) : bX (peL (rQ q ss)) r = if q = r then spJ ss else [] := by
  induction ss with
  | nil => simp [rQ, peL, spJ, bX]
  | cons s ss ih =>
    have : rQ q (s :: ss) = ⟨q, s⟩ :: rQ q ss := rfl
    rw [this, ME, xE, ih]
    by_cases e : q = r
    · simp only [e, if_true, UP]
      simp [bX, jE]
    · simp [e, bX]

theorem PZ {r : List aF} {t : Int} (ht : t < 1125899906842624) : ∀ {gs : List (List aF × List aB)}, zQ gs → (∀ g ∈ gs, BX 0 g.2) → val (bX (peL (vD gs)) r) t = val (look gs r) t
  | [], _, _ => rfl
  | g :: gs, hs, hg => by
    have hs' := List.pairwise_cons.1 hs
    rw [DF, YT, xE, DB, RK, rP, PZ ht hs'.2 fun q hq => hg q (by simp [hq])]
    by_cases e : g.1 = r
    · rw [if_pos e, if_pos e, aAa (hg g (by simp)) ht, wB fun q hq => ?_, sV, Int.add_zero]
      intro h
      have this : dW g.1 q.1 < 0 := hs'.1 q hq
      rw [h, ← e] at this
      exact oY this
    · rw [if_neg e, if_neg e, sV, Int.zero_add]

theorem aAi {gs : List (List aF × List aB)} {p : aN} (h : p ∈ vD gs) : ∃ g ∈ gs, p.Row = g.1 ∧ p.Span ∈ pG g.2 := by
  obtain ⟨g, hg, h1⟩ := List.mem_flatMap.1 h
  obtain ⟨s, hs, rfl⟩ := List.mem_map.1 h1
  exact ⟨g, hg, rfl, hs⟩

theorem IT {x : List aC} (ht : pF x = true) {p : aN} (h : p ∈ vD (groups x)) : xP p = true := by
  obtain ⟨g, hg, h1, h2⟩ := aAi h
  obtain ⟨a, b⟩ := qA ht hg
  unfold xP
  rw [h1, ((qX (wS.1 ht).1).2.1 g hg).1, VR a b h2]; rfl

theorem aB1 {l : List aN} {e : aC} (h : e ∈ peL l) : ∃ p ∈ l, e = ⟨p.Row, p.Span.From, 1⟩ ∨ e = ⟨p.Row, p.Span.To, -1⟩ := by
  obtain ⟨p, hp, h1⟩ := List.mem_flatMap.1 h
  exact ⟨p, hp, by simpa using h1⟩

theorem aCU {l : List aN} (h : ∀ p ∈ l, xP p = true) : (peL l).any unE = false ∧ (peL l).any FO = false := by
  have key : ∀ e ∈ peL l, fX e.Row = true ∧ (e.Net = 1 ∨ e.Net = -1) ∧ -1 ≤ e.At ∧ e.At ≤ 1125899906842624 := by
    intro e he
    obtain ⟨p, hp, h1⟩ := aB1 he
    have hm := h p hp
    unfold xP at hm
    rw [Bool.and_eq_true, QI] at hm
    rcases h1 with rfl | rfl
    · exact ⟨hm.1, .inl rfl, by simp only; omega, by simp only; omega⟩
    · exact ⟨hm.1, .inr rfl, by simp only; omega, by simp only; omega⟩
  refine ⟨List.any_eq_false.2 fun e he => ?_, List.any_eq_false.2 fun e he => ?_⟩
  · obtain ⟨h1, h2, _⟩ := key e he
    simp only [unE, h1, Bool.not_true, Bool.false_or, Bool.or_eq_true, decide_eq_true_eq]; omega
  · obtain ⟨_, _, h3, h4⟩ := key e he
    simp only [FO, Bool.or_eq_true, decide_eq_true_eq]; omega

theorem aAV {l : List aN} (h : ∀ p ∈ l, xP p = true) (hn : l.length ≤ 4096) : vT l = tH (peL l) := by
  unfold vT
  have : (l.any fun p => !xP p) = false := List.any_eq_false.2 fun p hp => by simp [h p hp]
  rw [this]
  have h2 : decide (4096 < l.length) = false := by simp; omega
  rw [h2]
  simp only [Bool.false_eq_true, if_false]

theorem VW {x : List aC} (ht : pF x = true) : ∀ g ∈ groups x, BX 0 g.2 := fun _ hg => EO (qA ht hg).1 (qA ht hg).2

theorem TG {x : List aC} (ht : pF x = true) (hm : oE (groups x) ≤ 4096) : vT (vD (groups x)) = (x, 0) := by
  have hl := FH (groups x)
  have hmay := (wS.1 ht).1
  have hs := (qX hmay).2.2
  rw [aAV (fun p hp => IT ht hp) (by omega)]
  obtain ⟨u1, u2⟩ := aCU fun p hp => IT ht hp
  refine aA8 u1 u2 hmay fun r => ?_
  obtain ⟨v1, v2⟩ := RJ u1 u2 r
  refine aBd v1 v2 (AY hmay r) fun t h1 h2 => ?_
  rw [PZ h2 hs (VW ht), OC hmay]

end Go.Abs
namespace Go.Abs
open Go
theorem sW (x y : aN) : x = y ↔ (x.Span.From = y.Span.From ∧ x.Span.To = y.Span.To) ∧ x.Row = y.Row := by
  obtain ⟨r, a, b⟩ := x
  obtain ⟨q, c, d⟩ := y
  simp only [aN.mk.injEq, aR.mk.injEq]
  constructor
  · rintro ⟨h1, h2, h3⟩; exact ⟨⟨h2, h3⟩, h1⟩
  · rintro ⟨⟨h2, h3⟩, h1⟩; exact ⟨h1, h2, h3⟩

theorem UC (x y : aN) (hl : x.Row.length ≤ 17592186044416) : oX x y = some (decide (x = y)) := by
  unfold oX
  rw [NZ _ _ hl]
  by_cases h : x.Span.From = y.Span.From ∧ x.Span.To = y.Span.To
  · by_cases h2 : x.Row = y.Row
    · simp [h.1, h.2, h2, cO, sW]
    · simp [h.1, h.2, h2, cO, sW]
  · have : ((decide (x.Span.From = y.Span.From)) && ((decide (x.Span.To = y.Span.To)) && true)) = false := by
      simp only [Bool.and_true, Bool.and_eq_false_iff, decide_eq_false_iff_not]
      by_cases h1 : x.Span.From = y.Span.From
      · exact .inr fun h2 => h ⟨h1, h2⟩
      · exact .inl h1
    have hn : ¬ x = y := fun e => h ((sW x y).1 e).1
    rw [this]; simp [cO, hn]

theorem WJ {a b : List aN} (hl : okP a) : uS a b = some (decide (a = b)) := by
  unfold uS cW
  have hlen := hl.1
  by_cases he : a.length = b.length
  · rw [KC he, cond_false]
    unfold cV
    have := KH (f := a) (g := b) (body := fun s => cD (fun y0 y1 => oX y0 y1) b a (a.length : Nat) s) he ?_ ?_ a.length 0 rfl (Nat.zero_le _)
    · simp only [Int.natCast_zero, List.drop_zero] at this
      rw [this]
      by_cases h : a = b <;> simp [h, cK]
    · intro i x y hx hy
      obtain ⟨d1, d2, d3, d4⟩ := idx hx (by omega)
      obtain ⟨_, e2, e3, _⟩ := idx hy (by omega)
      have hr := hl.2 x (List.mem_of_getElem? hx)
      simp only [cD, d1, cond_true, bA d2, bA e2, d3, e3, d4, UC x y (by omega), Option.bind_some]
      by_cases h : x = y <;> simp [h]
    · simp only [cD, dR, cond_false]
  · rw [IK he, cond_true]
    have : a ≠ b := fun h => he (by rw [h])
    simp [this]

theorem LM {a b : List aN} (hl : okP a) : qH a b = some (decide (a = b)) := by
  unfold qH
  have hlen := hl.1
  by_cases he : a.length = b.length
  · rw [KC he, cond_false]
    unfold zA
    have := KH (f := a) (g := b) (body := fun s => qZ a b s) he ?_ ?_ a.length 0 rfl (Nat.zero_le _)
    · simp only [Int.natCast_zero, List.drop_zero] at this
      rw [this]
      by_cases h : a = b <;> simp [h, uD]
    · intro i x y hx hy
      obtain ⟨d1, d2, d3, d4⟩ := idx hx (by omega)
      obtain ⟨_, e2, e3, _⟩ := idx hy (by omega)
      have hr := hl.2 x (List.mem_of_getElem? hx)
      simp only [qZ, d1, cond_true, bA d2, bA e2, d3, e3, d4]
      rw [bA fun _ => d2, bA fun _ => e2, yN _ _ (by omega)]
      by_cases h : x.Span.From = y.Span.From ∧ x.Span.To = y.Span.To
      · by_cases h2 : x.Row = y.Row
        · simp [h.1, h.2, h2, cO, sW]
        · simp [h.1, h.2, h2, cO, sW]
      · have : ((decide (x.Span.From = y.Span.From)) && ((decide (x.Span.To = y.Span.To)) && true)) = false := by
          simp only [Bool.and_true, Bool.and_eq_false_iff, decide_eq_false_iff_not]
          by_cases h1 : x.Span.From = y.Span.From
          · exact .inr fun h2 => h ⟨h1, h2⟩
          · exact .inl h1
        have hn : ¬ x = y := fun e => h ((sW x y).1 e).1
        rw [this]; simp [cO, hn]
    · simp only [qZ, dR, cond_false]
  · rw [IK he, cond_true]
    have : a ≠ b := fun h => he (by rw [h])
    simp [this]

def mP (a b : Int) : aN := ⟨[⟨1, 1, ByteArray.empty⟩], ⟨a, b⟩⟩

theorem aBx (a b : Int) : jU a b = some (mP a b) := rfl

theorem JI {l : List aN} (h : l.length ≤ 4096) (hr : ∀ e ∈ l, e.Row.length ≤ 8) : okP l := ⟨by omega, fun e he => by have := hr e he; omega⟩

theorem aB4 : SA [mP 5 9, mP 2 5] = ([mP 2 9], 0) := by decide +kernel

theorem aB8 : SA [mP 1 10, mP 3 5] = ([mP 1 5, mP 3 10], 0) := by decide +kernel

theorem IW : qJ = some true := by
  unfold qJ
  simp only [aBx, Option.bind_some]
  rw [TK (l := [mP 5 9, mP 2 5]) (JI (by simp) (by simp [mP])) (by simp), aB4]
  simp only [Option.bind_some]
  rw [TK (l := [mP 1 10, mP 3 5]) (JI (by simp) (by simp [mP])) (by simp), aB8]
  simp only [Option.bind_some]
  have g1 : uS [mP 2 9] [mP 2 9] = some (decide ([mP 2 9] = [mP 2 9])) := WJ (JI (by simp) (by simp [mP]))
  have g2 : qH [mP 1 5, mP 3 10] [mP 1 5, mP 3 10] = some (decide ([mP 1 5, mP 3 10] = [mP 1 5, mP 3 10])) := LM (JI (by simp) (by simp [mP]))
  have h1 : xP (mP (-1) 0) = true := by decide +kernel
  have h2 : xP (mP 3 3) = false := by decide +kernel
  simp [cO, g1, g2, XK, h1, h2]

end Go.Abs
namespace Go.Abs
open Go
theorem aCT {f : List aB} (hf : ∀ j ∈ f, j.Net ≤ 1048576 ∧ -1048576 ≤ j.Net) (hl : f.length ≤ 1024) : rO f [] [] 0 0 = pV f [] [] (iK f) := by
  unfold rO
  rw [nX (l := f) (body := fun s : List Int × List Int × Int × Int => lK f s.1 s.2.1 s.2.2.1 s.2.2.2) (fun n i => ([], [], n, i)) (fun n r => ([], [], n + iK r)) (fun n r => 0 ≤ n ∧ n + 1048576 * r.length ≤ 1073741824 ∧ ∀ j ∈ r, j ∈ f) 0 ?_ ?_ ⟨by omega, by omega, fun _ h => h⟩]
  · simp
  · intro i a r n ha hi
    left
    obtain ⟨d1, d2, d3, d4⟩ := idx ha (by omega)
    obtain ⟨h0, h1, h2⟩ := hi
    have ha2 := hf a (h2 a (by simp))
    simp only [List.length_cons] at h1
    show ∃ s', lK _ _ _ _ _ = _ ∧ _
    simp only [lK, d1, cond_true, bA d2, d3]
    by_cases h : 0 < a.Net
    · refine ⟨n + a.Net, ?_, ⟨by omega, by omega, fun j hj => h2 j (by simp [hj])⟩, by rw [xG, if_pos h, Int.add_assoc]⟩
      simp only [h, decide_true, cond_true, oT, d4]
      rw [dV (by omega) (by omega)]
    · refine ⟨n, ?_, ⟨by omega, by omega, fun j hj => h2 j (by simp [hj])⟩, by rw [xG, if_neg h, Int.zero_add]⟩
      simp only [h, decide_false, cond_false, oT, d4]
  · intro n _
    show lK _ _ _ _ _ = _
    simp only [lK, dR, cond_false]
    simp [iK]

theorem RG {f : List aB} {i : Int} {j : aB} {E : List Int} (d2 : 0 ≤ i ∧ i < ((List.length f : Nat) : Int)) (d3 : List.getD f (Int.toNat i) default = j) (hN : j.Net ≤ 1048576) : ∀ (n k : Nat) (B : List Int), j.Net.toNat = k + n → B.length + n ≤ 1000000 →
    lp (fun s : List Int × List Int × Int => lM f i s.1 s.2.1 s.2.2) (B, E, (k : Int)) = some (B ++ List.replicate n j.At, E)
  | 0, k, B, h, _ => cM (by
      show lM _ _ _ _ _ = _
      have : decide ((k : Int) < j.Net) = false := by simp; omega
      simp only [lM, bA d2, d3, this, cond_false]
      simp)
  | n + 1, k, B, h, hB => by
    rw [dL (s' := (B ++ [j.At], E, ((k + 1 : Nat) : Int))) ?_, RG d2 d3 hN n (k + 1) (B ++ [j.At]) (by omega) (by simp; omega)]
    · rw [List.append_assoc]; rfl
    · show lM _ _ _ _ _ = _
      have : decide ((k : Int) < j.Net) = true := by simp; omega
      simp only [lM, bA d2, d3, this, cond_true]
      rw [bA (by simp only [List.length_cons, List.length_nil]; omega), dV (by omega) (by omega)]
      rfl

theorem XY {f : List aB} {i : Int} {j : aB} {B : List Int} (d2 : 0 ≤ i ∧ i < ((List.length f : Nat) : Int)) (d3 : List.getD f (Int.toNat i) default = j) (hN : -1048576 ≤ j.Net ∧ j.Net ≤ 1048576) : ∀ (n k : Nat) (E : List Int), (-j.Net).toNat = k + n → E.length + n ≤ 1000000 →
    lp (fun s : List Int × List Int × Int => mG f i s.1 s.2.1 s.2.2) (B, E, (k : Int)) = some (B, E ++ List.replicate n j.At)
  | 0, k, E, h, _ => cM (by
      show mG _ _ _ _ _ = _
      have : decide ((k : Int) < IntKind.i64.wrap (0 - j.Net)) = false := by rw [dV (by omega) (by omega)]; simp; omega
      simp only [mG, bA d2, d3, this, cond_false]
      simp)
  | n + 1, k, E, h, hB => by
    rw [dL (s' := (B, E ++ [j.At], ((k + 1 : Nat) : Int))) ?_, XY d2 d3 hN n (k + 1) (E ++ [j.At]) (by omega) (by simp; omega)]
    · rw [List.append_assoc]; rfl
    · show mG _ _ _ _ _ = _
      have : decide ((k : Int) < IntKind.i64.wrap (0 - j.Net)) = true := by rw [dV (by omega) (by omega)]; simp; omega
      simp only [mG, bA d2, d3, this, cond_true]
      rw [bA (by simp only [List.length_cons, List.length_nil]; omega), dV (by omega) (by omega)]
      rfl

theorem aAJ (B E : List Int) (hB : B.length ≤ 1000000) (hE0 : E.length ≤ 1000000) : sQ B E [] 0 = some (pairs 1125899906842624 B E, 0) := by
  unfold sQ
  have key : ∀ (n : Nat) (k : Nat) (o : List aR), B.length - k = n → k ≤ B.length → o.length = k →
      lp (fun s : List Int × List Int × List aR × Int => jJ s.1 s.2.1 s.2.2.1 s.2.2.2) (B, E, o, (k : Int)) = some (o ++ pairs 1125899906842624 (B.drop k) (E.drop k)) := by
    intro n
    induction n with
    | zero =>
      intro k o h1 h2 h3
      have : k = B.length := by omega
      subst this
      refine cM ?_
      show jJ _ _ _ _ = _
      simp only [jJ, dR, cond_false]
      simp [pairs]
    | succ n ih =>
      intro k o h1 h2 h3
      have hk : k < B.length := by omega
      obtain ⟨d1, d2, d3, d4⟩ := idx (List.getElem?_eq_getElem hk) (by omega)
      have hd : B.drop k = B[k] :: B.drop (k + 1) := List.drop_eq_getElem_cons hk
      by_cases hE : k < E.length
      · obtain ⟨e1, e2, e3, _⟩ := idx (List.getElem?_eq_getElem hE) (by omega)
        have he : E.drop k = E[k] :: E.drop (k + 1) := List.drop_eq_getElem_cons hE
        rw [dL (s' := (B, E, o ++ [⟨B[k], E[k]⟩], ((k + 1 : Nat) : Int))) ?_, ih (k + 1) _ (by omega) (by omega) (by simp [h3]), hd, he]
        · rw [pairs, List.append_assoc]; rfl
        · show jJ _ _ _ _ = _
          simp only [jJ, d1, cond_true, bA d2, d3, e1, bA e2, e3, pS, d4]
          rw [bA (by simp only [List.length_cons, List.length_nil]; omega)]
      · have e1 : decide ((k : Int) < ((List.length E : Nat) : Int)) = false := by simp; omega
        have he : E.drop k = [] := List.drop_eq_nil_of_le (by omega)
        have he2 : E.drop (k + 1) = [] := List.drop_eq_nil_of_le (by omega)
        rw [dL (s' := (B, E, o ++ [⟨B[k], 1125899906842624⟩], ((k + 1 : Nat) : Int))) ?_, ih (k + 1) _ (by omega) (by omega) (by simp [h3]), hd, he, he2]
        · rw [pairs, List.append_assoc]; rfl
        · show jJ _ _ _ _ = _
          simp only [jJ, d1, cond_true, bA d2, d3, e1, cond_false, pS, d4]
          rw [bA (by simp only [List.length_cons, List.length_nil]; omega)]
  have := key B.length 0 [] (by omega) (by omega) rfl
  simp only [Int.natCast_zero, List.drop_zero, List.nil_append] at this
  rw [this]
  rfl

theorem aC5 {f : List aB} (hf : ∀ j ∈ f, j.Net ≤ 1048576 ∧ -1048576 ≤ j.Net) (hl : f.length ≤ 1024) (h1 : (kW f).length ≤ 1000000) (h2 : (ends f).length ≤ 1000000) : sF f [] [] 0 = sY (kW f) (ends f) := by
  unfold sF
  rw [nX (l := f) (body := fun s : List Int × List Int × Int => mI f s.1 s.2.1 s.2.2) (fun (s : List Int × List Int) i => (s.1, s.2, i)) (fun s r => (s.1 ++ kW r, s.2 ++ ends r)) (fun s r => s.1.length + (kW r).length ≤ 1000000 ∧ s.2.length + (ends r).length ≤ 1000000 ∧ ∀ j ∈ r, j ∈ f) ([], []) ?_ ?_ ⟨by simpa using h1, by simpa using h2, fun _ h => h⟩]
  · simp
  · intro i a r s ha hi
    obtain ⟨B, E⟩ := s
    left
    obtain ⟨d1, d2, d3, d4⟩ := idx ha (by omega)
    obtain ⟨g1, g2, g3⟩ := hi
    have ha2 := hf a (g3 a (by simp))
    rw [lS, List.length_append, List.length_replicate] at g1
    rw [vN, List.length_append, List.length_replicate] at g2
    simp only at g1 g2
    refine ⟨(B ++ List.replicate a.Net.toNat a.At, E ++ List.replicate (-a.Net).toNat a.At), ?_, ⟨by simp only [List.length_append, List.length_replicate]; omega, by simp only [List.length_append, List.length_replicate]; omega, fun j hj => g3 j (by simp [hj])⟩, by simp [lS, vN]⟩
    show mI _ _ _ _ = _
    simp only [mI, d1, cond_true, vF]
    have p1 := RG (E := E) d2 d3 ha2.1 a.Net.toNat 0 B (by omega) (by omega)
    have p2 := XY (B := B ++ List.replicate a.Net.toNat a.At) d2 d3 ⟨ha2.2, ha2.1⟩ (-a.Net).toNat 0 E (by omega) (by omega)
    simp only [Int.natCast_zero] at p1 p2
    rw [p1]
    simp only [Option.bind_some, sL, wT]
    rw [p2]
    simp only [Option.bind_some, sX, d4]
  · intro s _
    show mI _ _ _ _ = _
    simp only [mI, dR, cond_false]
    simp [kW, ends]

theorem WZ (f : List aB) : uK f = some (OF f) := by
  unfold uK OF
  rw [IS]
  simp only [Option.bind_some]
  by_cases hm : fZ f = true
  · rw [KY, hm]
    simp only [Bool.not_true, cond_false, if_true, Option.bind_some, Bool.false_eq_true, if_false]
    by_cases h2 : rD f < 0
    · simp [h2]
    · have hl := (kT.1 hm).1
      simp only [h2, decide_false, cond_false, Bool.false_eq_true, if_false]
      rw [aCT (zO hm) hl]
      unfold pV
      by_cases h3 : 4096 < iK f
      · simp [h3]
      · simp only [h3, decide_false, cond_false, Bool.false_eq_true, if_false]
        have hb : (kW f).length ≤ 4096 := by have := BB f; omega
        have he := XL (EO hm ((zZ hm).1 (by omega)))
        rw [aC5 (zO hm) hl (by omega) (by omega)]
        exact aAJ _ _ (by omega) (by omega)
  · simp [hm]

end Go.Abs
namespace Go.Abs
open Go
theorem aCB {l0 : List aC} {rows : List (List aF)} {r : List aF} {i : Int} (d2 : 0 ≤ i ∧ i < ((List.length rows : Nat) : Int)) (d3 : List.getD rows (Int.toNat i) default = r) (hr : r.length ≤ 4398046510976) (ss : List aR) (out : List aN) (h : out.length + ss.length ≤ 1000000) : rH l0 out rows i ss 0 = oS l0 (out ++ rQ r ss) rows i := by
  unfold rH
  rw [nX (l := ss) (body := fun s : List aN × Int => lJ l0 rows i ss s.1 s.2) (fun o i => (o, i)) (fun o t => o ++ rQ r t) (fun o t => o.length + t.length ≤ 1000000) out ?_ ?_ h]
  · rfl
  · intro k a t o ha hi
    left
    obtain ⟨e1, e2, e3, e4⟩ := idx ha (by omega)
    simp only [List.length_cons] at hi
    refine ⟨o ++ [⟨r, a⟩], ?_, by simp; omega, by simp [rQ]⟩
    show lJ _ _ _ _ _ _ = _
    simp only [lJ, e1, cond_true, bA d2, d3, bA e2, e3, e4]
    rw [bA (by omega)]
    exact bA (by simp only [List.length_cons, List.length_nil]; omega)
  · intro o _
    show lJ _ _ _ _ _ _ = _
    simp only [lJ, dR, cond_false]
    simp [rQ]

theorem UL {l : List aC} (hl : okL l) : sG l = some (pX l) := by
  unfold sG pX
  rw [MP hl]
  cases hm : oW l
  · simp
  · simp only [Option.bind_some, Bool.not_true, cond_false, VM hl, Bool.false_eq_true, if_false]
    cases ht : pF l
    · simp
    · have hn := (qX hm).1
      have hrows : ∀ e ∈ l, fX e.Row = true := fun e he => ((BJ.1 hm).2.1 e he).1
      simp only [Bool.not_true, cond_false, Bool.false_eq_true, if_false, HU hl hrows (show l.length ≤ 1099511627776 by omega), Option.bind_some, vH]
      have hg : groups l = vC l := (VO hm).symm
      have hrl := HL l
      rw [nX (l := rowsOf l) (body := fun s : List aN × Int => jM l (rowsOf l) s.1 s.2) (fun o i => (o, i)) (fun o rs => if 4096 < (o.length : Int) + oE (rs.map fun r => (r, bX l r)) then .inr ([], 7) else .inl (o ++ vD (rs.map fun r => (r, bX l r)))) (fun o rs => o.length ≤ 4096 ∧ ∀ r ∈ rs, r ∈ rowsOf l) [] ?_ ?_ ⟨by simp, fun _ h => h⟩]
      · rw [hg]
        by_cases h7 : 4096 < oE (vC l)
        · have h7' : 4096 < oE ((rowsOf l).map fun r => (r, bX l r)) := h7
          simp [h7, h7']
        · have h7' : ¬ 4096 < oE ((rowsOf l).map fun r => (r, bX l r)) := h7
          simp [h7, h7', rG, vC]
      · intro i r rs o hi hv
        obtain ⟨d1, d2, d3, d4⟩ := idx hi (by omega)
        have hr := hv.2 r (by simp)
        obtain ⟨e, he, hre⟩ := wU.1 hr
        have hr8 := (xB (hrows e he)).1
        rw [hre] at hr8
        have hgr : (r, bX l r) ∈ groups l := by rw [hg]; exact List.mem_map.2 ⟨r, hr, rfl⟩
        obtain ⟨g1, g2⟩ := qA ht hgr
        have g3 : ¬ rD (bX l r) < 0 := by have := (zZ g1).2 g2; simp only at this; omega
        have hrest := AX (rs.map fun r => (r, bX l r))
        show (∃ s', jM _ _ _ _ = _ ∧ _) ∨ jM _ _ _ _ = _
        simp only [jM, d1, cond_true, bA d2, d3, FJ hl (show l.length ≤ 1099511627776 by omega), WZ, Option.bind_some, List.map_cons, AW, DF]
        have hs : OF (bX l r) = if 4096 < iK (bX l r) then ([], 7) else (pG (bX l r), 0) := by
          simp only at g1
          simp [OF, g1, g3]
        rw [hs]
        by_cases h7 : 4096 < iK (bX l r)
        · right
          have : (4096 : Int) < (o.length : Int) + (iK (bX l r) + oE (rs.map fun r => (r, bX l r))) := by omega
          simp [h7, this]
        · have hsl := HH (bX l r)
          simp only [h7, if_false, decide_true, Bool.not_true, cond_false]
          rw [aCB d2 d3 (by omega) _ _ (by omega)]
          simp only [oS, vI, d4]
          have hlen : (((o ++ rQ r (pG (bX l r))).length : Nat) : Int) = (o.length : Int) + iK (bX l r) := by
            rw [List.length_append, rQ, List.length_map]; omega
          rw [hlen]
          by_cases h8 : (4096 : Int) < (o.length : Int) + iK (bX l r)
          · right
            have : (4096 : Int) < (o.length : Int) + (iK (bX l r) + oE (rs.map fun r => (r, bX l r))) := by omega
            simp [h8, this]
          · left
            refine ⟨o ++ rQ r (pG (bX l r)), by simp only [h8, decide_false, cond_false], ⟨by omega, fun q hq => hv.2 q (by simp [hq])⟩, ?_⟩
            rw [hlen, Int.add_assoc, List.append_assoc]
      · intro o hv
        show jM _ _ _ _ = _
        have : ¬ (4096 : Int) < (o.length : Int) := by have := hv.1; omega
        simp only [jM, dR, cond_false]
        simp [oE, vD]
        omega

end Go.Abs
namespace Go.Abs
open Go
theorem aA9 {p : aN} (h : xP p = true) : p.Row.length ≤ 8 := by
  unfold xP at h
  rw [Bool.and_eq_true] at h
  exact (xB h.1).1

theorem aB2 {l : List aN} (h : ∀ p ∈ l, xP p = true) (hn : l.length ≤ 1000000) : okP l :=
  ⟨by omega, fun e he => by have := aA9 (h e he); omega⟩

end Go.Abs
namespace Go.Abs
open Go
theorem aDe {l : List aC} (m : ∀ a ∈ l, yM a) (y : List.length l * 40 ≤ 140737488351232) : okL l :=
  ⟨by omega, fun e he => by have := (m e he).1.2; omega⟩

end Go.Abs
namespace Go.Abs
open Go
theorem MX {l : List aC} (h : (pX l).2 = 0) : pF l = true ∧ oE (groups l) ≤ 4096 ∧ (pX l).1 = vD (groups l) := by
  unfold pX at h ⊢
  split at h
  · simp at h
  · rename_i h1
    split at h
    · simp at h
    · rename_i h2
      split at h
      · simp at h
      · rename_i h3
        rw [if_neg h1, if_neg h2, if_neg h3]
        simp at h2 h3
        exact ⟨h2, by omega, rfl⟩

theorem VV (l : List aC) : okP (pX l).1 := by
  by_cases h : (pX l).2 = 0
  · obtain ⟨h1, h2, h3⟩ := MX h
    have := FH (groups l)
    rw [h3]
    exact aB2 (fun p hp => IT h1 hp) (by omega)
  · have : (pX l).1 = [] := by
      unfold pX at h ⊢
      split
      · rfl
      · split
        · rfl
        · split
          · rfl
          · rename_i h1 h2 h3
            rw [if_neg h1, if_neg h2, if_neg h3] at h
            simp at h
    rw [this]; exact JI (by simp) (by simp)

theorem NW (l0 : (List aC)) (m0 : ∀ a ∈ l0, yM a) (y0 : List.length l0 * 40 ≤ 140737488351232) : rE l0 = some true := by
  have k0 := aDe m0 y0
  unfold rE BV
  simp only [Option.bind_some]
  by_cases c : ((List.length l0 : Nat) : Int) ≤ 60
  · simp only [c, decide_true, Bool.not_true, cond_false]
    rw [QT k0, UL k0]
    have hok := VV l0
    simp only [Option.bind_some, decide_true, Bool.not_true, Bool.not_false, cO, cond_true, LM hok, Bool.or_self, cond_false]
    by_cases e : (pX l0).2 = 0
    · obtain ⟨h1, h2, h3⟩ := MX e
      have hfl := FH (groups l0)
      have he := TG h1 h2
      rw [h3] at hok ⊢
      rw [QE hok (by omega), he]
      simp [e, IW, WM k0]
    · simp [e, IW]
  · simp [c, IW]

end Go.Abs
