/- What the law PackOnce stands on: the framework, the given functions as plain functions, their walks, and the plain laws; part 5. -/
import Derived.Test.YtfepdngmgjmniaaPackOnceZ4
set_option linter.unusedSimpArgs false
set_option linter.unusedVariables false
namespace Go.Abs
open Go
def yQ (p n : Int) : List aB := if n ≠ 0 ∧ p < 1125899906842624 then [⟨p, n⟩] else []

def uF (p n : Int) : List aB → List aB
  | [] => yQ p n
  | j :: r => if j.At = p then uF p (n + j.Net) r else yQ p n ++ uF j.At j.Net r

def grp : List aB → List aB
  | [] => []
  | j :: r => uF j.At j.Net r

abbrev PB (a b : aB) : Prop := a.At ≤ b.At

theorem HT {t : Int} (ht : t < 1125899906842624) : ∀ {r : List aB} {p n : Int}, val (uF p n r) t = (if p ≤ t then n else 0) + val r t
  | [], p, n => by
    unfold uF yQ
    split
    · rw [cG, oL]
    · rw [oL]; split <;> omega
  | j :: r, p, n => by
    unfold uF
    split
    · rename_i h
      rw [HT ht, cG, h]; split <;> omega
    · rw [wW, HT ht, cG]
      have : val (yQ p n) t = if p ≤ t then n else 0 := by
        unfold yQ
        split
        · rw [cG, oL]; simp
        · rw [oL]; split <;> omega
      rw [this]

theorem aAH {t : Int} (ht : t < 1125899906842624) : ∀ {r : List aB}, val (grp r) t = val r t
  | [] => rfl
  | j :: r => by unfold grp; rw [HT ht, cG]

theorem KR : ∀ {r : List aB} {p n last : Int}, last < p → (∀ j ∈ r, p ≤ j.At) → Srt PB r → Up last (uF p n r)
  | [], p, n, last, h, _, _ => by
    unfold uF yQ
    split
    · rename_i h'; exact ⟨⟨h, h'.2, h'.1⟩, trivial⟩
    · trivial
  | j :: r, p, n, last, h, hp, hs => by
    have hj := hp j (by simp)
    have hs' := List.pairwise_cons.1 hs
    unfold uF
    split
    · exact KR h (fun k hk => hp k (by simp [hk])) hs'.2
    · have ih : Up p (uF j.At j.Net r) := KR (by omega) (fun k hk => hs'.1 k hk) hs'.2
      unfold yQ
      split
      · rename_i h'; exact ⟨⟨h, h'.2, h'.1⟩, ih⟩
      · exact ih.weaken (by omega)

theorem aBs {r : List aB} (h : ∀ j ∈ r, -2 < j.At) (hs : Srt PB r) : Up (-2) (grp r) := by
  cases r with
  | nil => trivial
  | cons j r =>
    have hs' := List.pairwise_cons.1 hs
    exact KR (h j (by simp)) (fun k hk => hs'.1 k hk) hs'.2

theorem ON {l out : List aB} (hl : l.length ≤ 1099511627776) (hb : ∀ j ∈ l, j.Net ≤ 1048576 ∧ -1048576 ≤ j.Net) : ∀ (r : List aB) (k : Nat) (p n : Int), l.drop k = r → k ≤ l.length → n ≤ 1048576 * k → -(1048576 * k) ≤ n →
    ∃ n' k', k ≤ k' ∧ k' ≤ l.length ∧ uF p n r = yQ p n' ++ grp (l.drop k') ∧ lp (fun s : List aB × List aB × Int × aB => jH s.1 s.2.1 s.2.2.1 s.2.2.2) (l, out, (k : Int), ⟨p, n⟩) = some (l, out, ((k' : Nat) : Int), ⟨p, n'⟩) ∧ (∀ j r', r = j :: r' → j.At = p → k < k')
  | [], k, p, n, hd, hk, _, _ => by
    have : k = l.length := by
      have := congrArg List.length hd
      simp only [List.length_drop, List.length_nil] at this; omega
    subst this
    refine ⟨n, l.length, Nat.le_refl _, Nat.le_refl _, by simp [uF, grp], cR ?_, fun j r' h => by cases h⟩
    show jH _ _ _ _ = _
    simp only [jH, lO, Bool.false_and, cond_false]
    exact bG (fun h => by cases h)
  | a :: r, k, p, n, hd, hk, h1, h2 => by
    obtain ⟨e1, e2⟩ := drop_cons hd
    have hlt : k < l.length := (List.getElem?_eq_some_iff.1 e1).1
    obtain ⟨d1, d2, d3, d4⟩ := idx e1 (by omega)
    have ha := hb a (List.mem_of_getElem? e1)
    by_cases h : a.At = p
    · have hw : IntKind.i64.wrap (n + a.Net) = n + a.Net := gM (by omega) (by omega)
      obtain ⟨n', k', k1, k2, k3, k4, _⟩ := ON hl hb r (k + 1) p (n + a.Net) e2 (by omega) (by omega) (by omega) (out := out)
      refine ⟨n', k', by omega, k2, by simp [uF, h, k3], ?_, fun _ _ _ _ => by omega⟩
      have hb : (fun s : List aB × List aB × Int × aB => jH s.1 s.2.1 s.2.2.1 s.2.2.2) (l, out, (k : Int), ⟨p, n⟩) = some (.inl (l, out, ((k + 1 : Nat) : Int), ⟨p, n + a.Net⟩)) := by
        show jH _ _ _ _ = _
        simp only [jH, d1, Bool.true_and, d3, d4, h, decide_true, cond_true, hw]
        rw [bG (fun _ => d2), bG d2]
      rw [eG hb, k4]
    · refine ⟨n, k, Nat.le_refl _, hk, ?_, cR ?_, fun j r' he hp => ?_⟩
      · rw [hd]; simp [uF, h, grp]
      · show jH _ _ _ _ = _
        simp only [jH, d1, Bool.true_and, d3, h, decide_false, cond_false]
        exact bG (fun _ => d2)
      · cases he; exact absurd hp h

theorem YP {l : List aB} (hl : l.length ≤ 1099511627776) (hb : ∀ j ∈ l, j.Net ≤ 1048576 ∧ -1048576 ≤ j.Net) : ∀ (m k : Nat) (out : List aB), l.length - k ≤ m → k ≤ l.length → out.length ≤ k →
    lp (fun s : List aB × List aB × Int => lA s.1 s.2.1 s.2.2) (l, out, (k : Int)) = some (out ++ grp (l.drop k)) := by
  have stop : ∀ out, lp (fun s : List aB × List aB × Int => lA s.1 s.2.1 s.2.2) (l, out, ((l.length : Nat) : Int)) = some (out ++ grp (l.drop l.length)) := by
    intro out
    refine cR ?_
    show lA _ _ _ = _
    simp only [lA, lO, cond_false]
    simp [grp]
  intro m
  induction m with
  | zero =>
    intro k out hm hk _
    have : k = l.length := by omega
    subst this; exact stop out
  | succ m ih =>
    intro k out hm hk ho
    by_cases he : k = l.length
    · subst he; exact stop out
    · have hlt : k < l.length := by omega
      have hd : l.drop k = l[k] :: l.drop (k + 1) := List.drop_eq_getElem_cons hlt
      obtain ⟨d1, d2, d3, d4⟩ := idx (List.getElem?_eq_getElem hlt) (by omega)
      obtain ⟨n', k', k1, k2, k3, k4, k5⟩ := ON hl hb (l.drop k) k l[k].At 0 rfl hk (by omega) (by omega) (out := out)
      have hk' := k5 _ _ hd rfl
      have hbod : (fun s : List aB × List aB × Int => lA s.1 s.2.1 s.2.2) (l, out, (k : Int)) = some (.inl (l, out ++ yQ l[k].At n', ((k' : Nat) : Int))) := by
        show lA _ _ _ = _
        simp only [lA, d1, cond_true, bG d2, d3, wV, k4, Option.bind_some, tA]
        unfold yQ
        by_cases c : n' ≠ 0 ∧ l[k].At < 1125899906842624
        · have hc : (!decide (n' = 0) && decide (l[k].At < 1125899906842624)) = true := by simp [c]
          rw [hc, cond_true, if_pos c, bG (by simp only [List.length_cons, List.length_nil]; omega)]
        · have hc : (!decide (n' = 0) && decide (l[k].At < 1125899906842624)) = false := by
            rw [Bool.eq_false_iff]; intro h; apply c; simpa using h
          rw [hc, cond_false, if_neg c]; simp
      have hfl : (yQ l[k].At n').length ≤ 1 := by unfold yQ; split <;> simp
      rw [eG hbod, ih k' _ (by omega) k2 (by simp only [List.length_append]; omega)]
      have hg : grp (l.drop k) = uF l[k].At 0 (l.drop k) := by rw [hd]; simp [grp, uF]
      rw [hg, k3]; simp

theorem aAT (a b : aB) : mL a b = some (if a.At < b.At then -1 else if b.At < a.At then 1 else 0) := by
  unfold mL iV nL
  by_cases h1 : a.At < b.At
  · simp [h1]
  · by_cases h2 : b.At < a.At <;> simp [h1, h2]

theorem aBJ : Cmp (fun _ => True) PB (fun y0 y1 => mL y0 y1) where
  ans x y _ _ := ⟨_, aAT x y, by unfold PB; split <;> (try split) <;> omega⟩
  trans x y z _ _ _ h1 h2 := Int.le_trans h1 h2
  total x y _ _ := Int.le_total x.At y.At

theorem aBy {l : List aB} (hl : l.length ≤ 1099511627776) : ∃ r, r.Perm l ∧ Srt PB r ∧ cX l (fun y0 y1 => mL y0 y1) = some r := by
  obtain ⟨r, r1, r2, r3⟩ := MF aBJ (d := l) (fun _ _ => trivial) hl
  refine ⟨r, r1, r2, ?_⟩
  unfold cX
  rw [RY, r3]; rfl

theorem QD {f g : List aB} (h : f.Perm g) (t : Int) : val f t = val g t := by
  induction h with
  | nil => rfl
  | cons x _ ih => rw [cG, cG, ih]
  | swap x y l => rw [cG, cG, cG, cG]; omega
  | trans _ _ ih1 ih2 => rw [ih1, ih2]

theorem UW {l : List aB} (h : l.any rZ = false) : ∀ j ∈ l, j.Net ≤ 1048576 ∧ -1048576 ≤ j.Net := by
  intro j hj
  have := List.any_eq_false.1 h j hj
  simp [rZ, DN] at this
  omega

theorem xK {l : List aB} (h : l.any xG = false) : ∀ j ∈ l, -2 < j.At ∧ j.At ≤ 1125899906842624 := by
  intro j hj
  have := List.any_eq_false.1 h j hj
  simp [xG] at this
  omega

theorem ES {l : List aB} (ht : ∀ j ∈ l, -2 < j.At) : Inc (-2) (LP [] (l.filter fun j => decide (j.At < 1125899906842624))) :=
  OZ (ps := []) (show Inc (-2) [] from trivial) fun j hj => by
    obtain ⟨h1, h2⟩ := List.mem_filter.1 hj
    exact ⟨ht j h1, by simpa using h2⟩

theorem IA {l h : List aB} (ht : ∀ j ∈ l, -2 < j.At) (hh : Up (-2) h) (hv : ∀ t, -2 < t → t < 1125899906842624 → val h t = val l t) : vL l = h := by
  refine ZQ (F := val l) (wF fun j hj => ht j hj) (ES ht) ?_ hh hv
  intro s t _ hst h2 hn
  exact BB hst fun j hj hc => hn j.At (HM.2 (Or.inr ⟨j, List.mem_filter.2 ⟨hj, by simp; omega⟩, rfl⟩)) hc

theorem norm_eq {l : List aB} (hl : l.length ≤ 1099511627776) : uW l = some (jC l) := by
  unfold uW jC
  rw [FT (g := rZ) hl (fun x _ => by simp [rF, SN, rZ])]
  simp only [Option.bind_some]
  cases h1 : l.any rZ
  · rw [FT (f := fun y0 => sD y0) (g := xG) hl (fun x _ => rfl)]
    simp only [cond_false, Option.bind_some, Bool.false_eq_true, if_false]
    cases h2 : l.any xG
    · simp only [cond_false, Bool.false_eq_true, if_false]
      have hc : eV l = some l := by unfold eV; exact bG ⟨by omega, by omega⟩
      obtain ⟨r, r1, r2, r3⟩ := aBy hl
      rw [hc]
      simp only [Option.bind_some]
      rw [r3]
      simp only [Option.bind_some, xB]
      have hlr : r.length ≤ 1099511627776 := by rw [r1.length_eq]; exact hl
      have := YP hlr (fun j hj => UW h1 j (r1.mem_iff.1 hj)) r.length 0 [] (by omega) (by omega) (by simp)
      simp only [Int.natCast_zero, List.drop_zero, List.nil_append] at this
      rw [this]
      simp only [Option.bind_some, tN, YF]
      rw [IA (fun j hj => (xK h2 j hj).1) (aBs (fun j hj => (xK h2 j (r1.mem_iff.1 hj)).1) r2) (fun t _ ht => by rw [aAH ht, QD r1])]
    · simp
  · simp

end Go.Abs
namespace Go.Abs
open Go
theorem MG (x y : ByteArray) : nX x y = decide (x = y) := by
  unfold nX
  rw [ByteArray.toList_eq, ByteArray.toList_eq]
  by_cases h : x = y
  · simp [h]
  · have : x.data.toList ≠ y.data.toList := by
      intro he
      apply h
      cases x; cases y
      congr 1
      exact Array.toList_inj.1 he
    have h2 : (x.data.toList == y.data.toList) = false := by simpa using this
    rw [h2]; simp [h]

theorem veq (a b : aF) : ((decide (a.Kind = b.Kind)) && ((decide (a.Num = b.Num)) && ((nX a.Text b.Text) && true))) = decide (a = b) := by
  rw [MG]
  obtain ⟨a1, a2, a3⟩ := a
  obtain ⟨b1, b2, b3⟩ := b
  by_cases h1 : a1 = b1 <;> by_cases h2 : a2 = b2 <;> by_cases h3 : a3 = b3 <;> simp [h1, h2, h3]

def CH (v : aF) : Bool := decide (v.Kind = 1) && nX v.Text (⟨#[]⟩ : ByteArray)

def CY (v : aF) : Bool := ((decide (v.Kind = 2)) && (decide (v.Num = 0))) && (decide (((ByteArray.size v.Text : Nat) : Int) ≤ 64))

def DB (v : aF) : Bool := CH v || CY v

def nQ (r : List aF) : Bool := decide (r.length ≤ 8) && r.all DB

theorem of_eq (v : aF) : lC v = some (if CH v then (.k_number v.Num, true) else if CY v then (.k_words v.Text, true) else (.none_, false)) := by
  unfold lC CH CY
  cases (decide (v.Kind = 1) && nX v.Text (⟨#[]⟩ : ByteArray)) <;> cases (((decide (v.Kind = 2)) && (decide (v.Num = 0))) && (decide (((ByteArray.size v.Text : Nat) : Int) ≤ 64))) <;> rfl

theorem aAR (v : aF) : vA v = some (DB v) := by
  unfold vA DB
  rw [of_eq]
  cases CH v <;> cases CY v <;> rfl

theorem PC {l : List aF} {f : aF → Option Bool} {g : aF → Bool} (hl : l.length ≤ 1099511627776) (hf : ∀ x ∈ l, f x = some (g x)) : dF l f = some (l.any g) := by
  unfold dF fK fG
  obtain ⟨x, e, hx⟩ := zZ hl hf l 0 rfl (Nat.zero_le _)
  have e' : lp (fun s => fH f l (l.length : Nat) s) 0 = some x := e
  rw [e']
  rcases hx with ⟨rfl, h⟩ | ⟨i, rfl, _, _, h, _⟩
  · simp [dL, h]
  · simp [h]

theorem BT (r : List aF) : pU r = some (nQ r) := by
  unfold pU nQ
  by_cases h : r.length ≤ 8
  · have h1 : decide ((8 : Int) < ((r.length : Nat) : Int)) = false := by simp; omega
    rw [h1, cond_false, PC (g := fun v => !DB v) (by omega) (fun x _ => by simp [uZ, aAR])]
    simp only [Option.bind_some, h, decide_true, Bool.true_and]
    congr 1
    rw [List.all_eq_not_any_not]
  · have h1 : decide ((8 : Int) < ((r.length : Nat) : Int)) = true := by simp; omega
    rw [h1, cond_true]
    simp [h]

theorem KJ {α : Type} [DecidableEq α] {f g : List α} {body : Int → Option (Int ⊕ (Unit ⊕ Bool))} (he : f.length = g.length)
    (hb : ∀ (i : Nat) a b, f[i]? = some a → g[i]? = some b → body i = some (if a = b then .inl ((i + 1 : Nat) : Int) else .inr (.inr false)))
    (hend : body (f.length : Nat) = some (.inr (.inl ()))) : ∀ (m k : Nat), f.length - k = m → k ≤ f.length → lp body (k : Int) = some (if f.drop k = g.drop k then .inl () else .inr false)
  | 0, k, hm, hk => by
    have : k = f.length := by omega
    subst this
    rw [List.drop_length, he, List.drop_length, if_pos rfl]
    rw [← he]
    exact cR hend
  | m + 1, k, hm, hk => by
    have h1 : k < f.length := by omega
    have h2 : k < g.length := by omega
    have hbk := hb k _ _ (List.getElem?_eq_getElem h1) (List.getElem?_eq_getElem h2)
    have e1 : f.drop k = f[k] :: f.drop (k + 1) := List.drop_eq_getElem_cons h1
    have e2 : g.drop k = g[k] :: g.drop (k + 1) := List.drop_eq_getElem_cons h2
    have hiff : (f.drop k = g.drop k) ↔ (f[k] = g[k] ∧ f.drop (k + 1) = g.drop (k + 1)) := by rw [e1, e2, List.cons.injEq]
    by_cases h : f[k] = g[k]
    · rw [if_pos h] at hbk
      rw [eG hbk, KJ he hb hend m (k + 1) (by omega) (by omega)]
      simp only [hiff, h, true_and]
    · rw [if_neg h] at hbk
      rw [cR hbk]
      simp only [hiff, h, false_and, if_false]

theorem JL {α : Type} {f g : List α} (h : f.length ≠ g.length) : (!decide (((f.length : Nat) : Int) = ((g.length : Nat) : Int))) = true := by simp; omega

theorem JA {α : Type} {f g : List α} (h : f.length = g.length) : (!decide (((f.length : Nat) : Int) = ((g.length : Nat) : Int))) = false := by simp [h]

theorem JM (a b : List aF) (hl : a.length ≤ 17592186044416) : uD a b = some (decide (a = b)) := by
  unfold uD gY
  by_cases he : a.length = b.length
  · rw [JA he, cond_false]
    unfold gN
    have := KJ (f := a) (g := b) (body := fun s => dH a b (a.length : Nat) s) he ?_ ?_ a.length 0 rfl (Nat.zero_le _)
    · simp only [Int.natCast_zero, List.drop_zero] at this
      rw [this]
      by_cases h : a = b <;> simp [h, eC]
    · intro i x y hx hy
      obtain ⟨d1, d2, d3, d4⟩ := idx hx (by omega)
      obtain ⟨_, e2, e3, _⟩ := idx hy (by omega)
      simp only [dH, d1, cond_true, bG d2, bG e2, d3, e3, d4, veq]
      by_cases h : x = y <;> simp [h]
    · simp only [dH, lO, cond_false]
  · rw [JL he, cond_true]
    have : a ≠ b := fun h => he (by rw [h])
    simp [this]

theorem NM (a b : List aF) (hl : a.length ≤ 17592186044416) : tR a b = some (decide (a = b)) := by
  unfold tR
  by_cases he : a.length = b.length
  · rw [JA he, cond_false]
    unfold vH
    have := KJ (f := a) (g := b) (body := fun s => pG a b s) he ?_ ?_ a.length 0 rfl (Nat.zero_le _)
    · simp only [Int.natCast_zero, List.drop_zero] at this
      rw [this]
      by_cases h : a = b <;> simp [h, rR]
    · intro i x y hx hy
      obtain ⟨d1, d2, d3, d4⟩ := idx hx (by omega)
      obtain ⟨_, e2, e3, _⟩ := idx hy (by omega)
      simp only [pG, d1, cond_true, bG d2, bG e2, d3, e3, d4, veq]
      by_cases h : x = y <;> simp [h]
    · simp only [pG, lO, cond_false]
  · rw [JL he, cond_true]
    have : a ≠ b := fun h => he (by rw [h])
    simp [this]

structure ET {α : Type} (c : α → α → Int) : Prop where
  eq : ∀ a b, c a b = 0 ↔ a = b
  anti : ∀ a b, c a b < 0 ↔ 0 < c b a
  trans : ∀ a b d, c a b < 0 → c b d < 0 → c a d < 0

def pV (x y : Int) : Int := if x < y then -1 else if y < x then 1 else 0

theorem AN : ET pV where
  eq a b := by unfold pV; (repeat' split) <;> omega
  anti a b := by unfold pV; (repeat' split) <;> omega
  trans a b d := by unfold pV; (repeat' split) <;> omega

def kZ {α : Type} [DecidableEq α] (c : α → α → Int) : List α → List α → Int
  | [], [] => 0
  | [], _ :: _ => -1
  | _ :: _, [] => 1
  | a :: r, b :: s => if a = b then kZ c r s else c a b

theorem ET.list {α : Type} [DecidableEq α] {c : α → α → Int} (h : ET c) : ET (kZ c) where
  eq := by
    intro a
    induction a with
    | nil => intro b; cases b <;> simp [kZ]
    | cons x r ih =>
      intro b
      cases b with
      | nil => simp [kZ]
      | cons y s =>
        unfold kZ
        split
        · rename_i e; subst e; rw [ih]; simp
        · rename_i e
          have := h.eq x y
          constructor
          · intro h0; exact absurd (this.1 h0) e
          · intro h0; cases h0; exact absurd rfl e
  anti := by
    intro a
    induction a with
    | nil => intro b; cases b <;> simp [kZ]
    | cons x r ih =>
      intro b
      cases b with
      | nil => simp [kZ]
      | cons y s =>
        unfold kZ
        by_cases e : x = y
        · subst e; simp only [if_true]; exact ih s
        · rw [if_neg e, if_neg (fun e' => e e'.symm)]; exact h.anti x y
  trans := by
    intro a
    induction a with
    | nil =>
      intro b d
      cases b <;> cases d <;> simp [kZ]
    | cons x r ih =>
      intro b d
      cases b with
      | nil => simp [kZ]
      | cons y s =>
        cases d with
        | nil => simp [kZ]
        | cons z t =>
          unfold kZ
          by_cases e1 : x = y
          · subst e1
            rw [if_pos rfl]
            by_cases e2 : x = z
            · subst e2; rw [if_pos rfl, if_pos rfl]; exact ih s t
            · rw [if_neg e2, if_neg e2]; exact fun _ h => h
          · rw [if_neg e1]
            by_cases e2 : y = z
            · have hz : ¬ x = z := fun e => e1 (e.trans e2.symm)
              intro h _
              rw [if_neg hz, ← e2]; exact h
            · rw [if_neg e2]
              intro h1 h2
              by_cases e3 : x = z
              · subst e3
                have h3 := (h.anti x y).1 h1
                omega
              · rw [if_neg e3]; exact h.trans x y z h1 h2

def HV (a b : UInt8) : Int := if a < b then -1 else if b < a then 1 else 0

theorem HW : ET HV where
  eq a b := by
    unfold HV
    constructor
    · intro h
      split at h
      · cases h
      · split at h
        · cases h
        · rename_i h1 h2
          rw [UInt8.lt_iff_toNat_lt] at h1 h2
          exact UInt8.toNat_inj.1 (by omega)
    · rintro rfl
      have : ¬ a < a := by rw [UInt8.lt_iff_toNat_lt]; omega
      simp [this]
  anti a b := by
    unfold HV
    simp only [UInt8.lt_iff_toNat_lt]
    (repeat' split) <;> omega
  trans a b d := by
    unfold HV
    simp only [UInt8.lt_iff_toNat_lt]
    (repeat' split) <;> omega

theorem AO : ∀ (a b : List UInt8), Go.Lib.compareBytes a b = kZ HV a b
  | [], [] => rfl
  | [], _ :: _ => rfl
  | _ :: _, [] => rfl
  | a :: r, b :: s => by
    unfold Go.Lib.compareBytes kZ
    rw [AO r s]
    by_cases e : a = b
    · subst e
      have : ¬ a < a := by rw [UInt8.lt_iff_toNat_lt]; omega
      simp [this]
    · rw [if_neg e]
      unfold HV
      have : ¬ (¬ a < b ∧ ¬ b < a) := by
        rintro ⟨h1, h2⟩
        rw [UInt8.lt_iff_toNat_lt] at h1 h2
        exact e (UInt8.toNat_inj.1 (by omega))
      by_cases h1 : a < b
      · simp [h1]
      · have h2 : b < a := Classical.byContradiction fun h2 => this ⟨h1, h2⟩
        simp [h1, h2]

def PA (a b : ByteArray) : Int := kZ HV a.data.toList b.data.toList

theorem aAI (a b : ByteArray) : LJ a b = PA a b := AO _ _

theorem data_inj {x y : ByteArray} (h : x.data.toList = y.data.toList) : x = y := by
  cases x; cases y
  congr 1
  exact Array.toList_inj.1 h

theorem DD : ET PA where
  eq a b := by unfold PA; rw [(HW.list).eq]; exact ⟨data_inj, fun h => by rw [h]⟩
  anti a b := (HW.list).anti _ _
  trans a b d := (HW.list).trans _ _ _

def zT (a b : aF) : Int := if a.Kind = b.Kind then (if a.Num = b.Num then PA a.Text b.Text else pV a.Num b.Num) else pV a.Kind b.Kind

theorem ZH : ET zT where
  eq a b := by
    obtain ⟨a1, a2, a3⟩ := a
    obtain ⟨b1, b2, b3⟩ := b
    unfold zT
    simp only [aF.mk.injEq]
    by_cases h1 : a1 = b1
    · by_cases h2 : a2 = b2
      · simp [h1, h2, DD.eq]
      · simp [h1, h2, AN.eq]
    · simp [h1, AN.eq]
  anti a b := by
    unfold zT
    by_cases h1 : a.Kind = b.Kind
    · rw [if_pos h1, if_pos h1.symm]
      by_cases h2 : a.Num = b.Num
      · rw [if_pos h2, if_pos h2.symm]; exact DD.anti _ _
      · rw [if_neg h2, if_neg (fun h => h2 h.symm)]; exact AN.anti _ _
    · rw [if_neg h1, if_neg (fun h => h1 h.symm)]; exact AN.anti _ _
  trans a b d := by
    unfold zT
    intro h1 h2
    have lt : ∀ {x y : Int}, pV x y < 0 → x < y := fun {x y} h => by unfold pV at h; split at h <;> (try split at h) <;> omega
    have mk : ∀ {x y : Int}, x < y → pV x y < 0 := fun {x y} h => by unfold pV; rw [if_pos h]; omega
    by_cases e1 : a.Kind = b.Kind
    · rw [if_pos e1] at h1
      by_cases e2 : b.Kind = d.Kind
      · rw [if_pos e2] at h2
        rw [if_pos (e1.trans e2)]
        by_cases f1 : a.Num = b.Num
        · rw [if_pos f1] at h1
          by_cases f2 : b.Num = d.Num
          · rw [if_pos f2] at h2
            rw [if_pos (f1.trans f2)]
            exact DD.trans _ _ _ h1 h2
          · rw [if_neg f2] at h2
            rw [f1, if_neg f2]; exact h2
        · rw [if_neg f1] at h1
          have g1 := lt h1
          by_cases f2 : b.Num = d.Num
          · rw [← f2, if_neg f1]; exact h1
          · rw [if_neg f2] at h2
            have g2 := lt h2
            rw [if_neg (by omega)]
            exact mk (by omega)
      · rw [if_neg e2] at h2
        rw [e1, if_neg e2]; exact h2
    · rw [if_neg e1] at h1
      have g1 := lt h1
      by_cases e2 : b.Kind = d.Kind
      · rw [← e2, if_neg e1]; exact h1
      · rw [if_neg e2] at h2
        have g2 := lt h2
        rw [if_neg (by omega)]
        exact mk (by omega)

def iY (a b : List aF) : Int := kZ zT a b

theorem jG : ET iY := ZH.list

end Go.Abs
namespace Go.Abs
open Go
theorem LV (x y : Int) : iV x y = some (pV x y) := by
  unfold iV nL pV
  by_cases h1 : x < y
  · simp [h1]
  · by_cases h2 : y < x <;> simp [h1, h2]

theorem XN (x y : Int) : dX x y = some (pV x y) := by
  unfold dX jI pV
  by_cases h1 : x < y
  · simp [h1]
  · by_cases h2 : y < x <;> simp [h1, h2]

theorem GD {v : aF} (h : CH v = true) : v.Kind = 1 ∧ v.Text = (⟨#[]⟩ : ByteArray) := by
  simp only [CH, MG, Bool.and_eq_true, decide_eq_true_eq] at h; exact h

theorem DI {v : aF} (h : CY v = true) : v.Kind = 2 ∧ v.Num = 0 ∧ v.Text.size ≤ 64 := by
  simp only [CY, Bool.and_eq_true, decide_eq_true_eq] at h; exact ⟨h.1.1, h.1.2, by omega⟩

theorem TK {v : aF} (h : DB v = true) : CH v = true ∨ (CH v = false ∧ CY v = true) := by
  unfold DB at h
  cases hn : CH v
  · rw [hn] at h; exact .inr ⟨rfl, by simpa using h⟩
  · exact .inl rfl

theorem VX (a : ByteArray) : PA a a = 0 := (DD.eq a a).2 rfl

theorem FE (a : Int) : pV a a = 0 := (AN.eq a a).2 rfl

theorem WS {a b : aF} (ha : DB a = true) (hb : DB b = true) : pP a b = some (zT a b) := by
  unfold pP
  simp only [of_eq, Option.bind_some]
  rcases TK ha with h1 | ⟨h1, h1'⟩ <;> rcases TK hb with h2 | ⟨h2, h2'⟩
  · obtain ⟨k1, t1⟩ := GD h1
    obtain ⟨k2, t2⟩ := GD h2
    simp only [h1, h2, if_true, Bool.not_true, Bool.or_self, cond_false, XN, Option.bind_some]
    unfold zT
    rw [k1, k2, t1, t2, if_pos rfl, VX]
    by_cases hn : a.Num = b.Num
    · rw [if_pos hn, hn, FE]
    · rw [if_neg hn]
  · obtain ⟨k1, t1⟩ := GD h1
    obtain ⟨k2, n2, _⟩ := DI h2'
    simp only [h1, h2, h2', if_true, Bool.false_eq_true, if_false, Bool.not_true, Bool.or_self, cond_false]
    unfold zT
    rw [k1, k2]; rfl
  · obtain ⟨k1, n1, _⟩ := DI h1'
    obtain ⟨k2, t2⟩ := GD h2
    simp only [h1, h1', h2, if_true, Bool.false_eq_true, if_false, Bool.not_true, Bool.or_self, cond_false]
    unfold zT
    rw [k1, k2]; rfl
  · obtain ⟨k1, n1, _⟩ := DI h1'
    obtain ⟨k2, n2, _⟩ := DI h2'
    simp only [h1, h1', h2, h2', if_true, Bool.false_eq_true, if_false, Bool.not_true, Bool.or_self, cond_false]
    unfold zT mF iD
    rw [k1, k2, n1, n2, if_pos rfl, if_pos rfl]
    simp [aAI]

theorem LC {r : List aF} (h : nQ r = true) : r.length ≤ 8 ∧ ∀ v ∈ r, DB v = true := by
  simp only [nQ, Bool.and_eq_true, decide_eq_true_eq, List.all_eq_true] at h; exact h

theorem ZV {a b : List aF} {k : Nat} (hk : k = a.length ∨ k = b.length) (h1 : k ≤ a.length) (h2 : k ≤ b.length) : iY (a.drop k) (b.drop k) = pV a.length b.length := by
  rcases hk with rfl | rfl
  · rw [List.drop_length]
    by_cases h : a.length = b.length
    · rw [h, List.drop_length, FE]; rfl
    · rw [List.drop_eq_getElem_cons (by omega)]
      show (-1 : Int) = _
      unfold pV; rw [if_pos (by omega)]
  · rw [List.drop_length]
    by_cases h : a.length = b.length
    · rw [← h, List.drop_length, FE]; rfl
    · rw [List.drop_eq_getElem_cons (by omega)]
      show (1 : Int) = _
      unfold pV; rw [if_neg (by omega), if_pos (by omega)]

theorem TL {a b : List aF} (hl : a.length ≤ 8) (hlb : b.length ≤ 8) (n : Nat) (hn : n = min a.length b.length) : ∀ (m k : Nat), n - k = m → k ≤ n →
    ∃ x, lp (fun s : Int × Int => bT (fun st y0 => (iU y0 st b).bind fun o => some (o.2, o.1)) (a.take n) (n : Nat) s.1 s.2) ((k : Int) - 1, (k : Int)) = some x ∧
      ((∃ sg, x = .inl sg ∧ iY (a.drop k) (b.drop k) = pV a.length b.length) ∨
        (∃ i : Nat, x = .inr ((i : Int), (i : Int)) ∧ i < a.length ∧ i < b.length ∧ iY (a.drop k) (b.drop k) = zT (a.getD i default) (b.getD i default)))
  | 0, k, hm, hk => by
    have : k = n := by omega
    subst this
    refine ⟨.inl ((k : Int) - 1), cR ?_, .inl ⟨_, rfl, ZV (by omega) (by omega) (by omega)⟩⟩
    show bT _ _ _ _ _ = _
    simp only [bT, lO, cond_false]
  | m + 1, k, hm, hk => by
    have h1 : k < a.length := by omega
    have h2 : k < b.length := by omega
    have ht : (a.take n)[k]? = some a[k] := by
      rw [List.getElem?_take_of_lt (by omega)]; exact List.getElem?_eq_getElem h1
    obtain ⟨d1, d2, d3, d4⟩ := idx ht (by simp; omega)
    have hlt : (a.take n).length = n := by simp; omega
    rw [hlt] at d1 d2
    obtain ⟨_, e2, e3, _⟩ := idx (List.getElem?_eq_getElem h2) (by omega)
    have hw : IntKind.i64.wrap ((k : Int) - 1 + 1) = (k : Int) := by rw [gM (by omega) (by omega)]; omega
    have hb : (fun s : Int × Int => bT (fun st y0 => (iU y0 st b).bind fun o => some (o.2, o.1)) (a.take n) (n : Nat) s.1 s.2) ((k : Int) - 1, (k : Int)) =
        some (if a[k] = b[k] then .inl ((k : Int), ((k + 1 : Nat) : Int)) else .inr (.inr ((k : Int), (k : Int)))) := by
      show bT _ _ _ _ _ = _
      simp only [bT, d1, cond_true, hlt, bG d2, d3, d4, iU, hw, bG e2, e3, veq, Option.bind_some]
      by_cases h : a[k] = b[k] <;> simp [h]
    have ea : a.drop k = a[k] :: a.drop (k + 1) := List.drop_eq_getElem_cons h1
    have eb : b.drop k = b[k] :: b.drop (k + 1) := List.drop_eq_getElem_cons h2
    by_cases h : a[k] = b[k]
    · rw [if_pos h] at hb
      obtain ⟨x, e, hx⟩ := TL hl hlb n hn m (k + 1) (by omega) (by omega)
      have hc : iY (a.drop k) (b.drop k) = iY (a.drop (k + 1)) (b.drop (k + 1)) := by
        rw [ea, eb]; unfold iY; rw [kZ, if_pos h]
      refine ⟨x, ?_, by rw [hc]; exact hx⟩
      rw [eG hb]
      rw [show ((k + 1 : Nat) : Int) - 1 = (k : Int) by omega] at e
      exact e
    · rw [if_neg h] at hb
      refine ⟨_, cR hb, .inr ⟨k, rfl, h1, h2, ?_⟩⟩
      rw [ea, eb]; unfold iY; rw [kZ, if_neg h]
      simp [List.getD_eq_getElem?_getD, h1, h2]

theorem MW (a b : List aF) : pF a b = some (if nQ a && nQ b then iY a b else 0) := by
  unfold pF
  rw [BT]
  simp only [Option.bind_some]
  cases ha : nQ a
  · simp [cZ]
  · simp only [Bool.not_true, Bool.not_false, cZ, cond_true, BT, Option.bind_some, Bool.false_or]
    cases hb : nQ b
    · simp
    · obtain ⟨la, ma⟩ := LC ha
      obtain ⟨lb, mb⟩ := LC hb
      have hif : (if ((List.length b : Nat) : Int) < ((List.length a : Nat) : Int) then ((List.length b : Nat) : Int) else ((List.length a : Nat) : Int)) = ((min a.length b.length : Nat) : Int) := by split <;> omega
      have hlt : (a.take (min a.length b.length)).length = min a.length b.length := by rw [List.length_take]; omega
      simp only [Bool.not_true, cond_false, hif, Int.toNat_natCast, sQ, Option.bind_some, eY, eO, hlt, Bool.and_self, if_true]
      rw [bG ⟨by omega, by omega⟩]
      obtain ⟨x, e, hx⟩ := TL (a := a) (b := b) la lb _ rfl _ 0 rfl (Nat.zero_le _)
      have e' : lp (fun s : Int × Int => bT (fun st y0 => (iU y0 st b).bind fun o => some (o.2, o.1)) (a.take (min a.length b.length)) (min a.length b.length : Nat) s.1 s.2) ((-1 : Int), (0 : Int)) = some x := e
      rw [e']
      simp only [List.drop_zero] at hx
      rcases hx with ⟨sg, rfl, h⟩ | ⟨i, rfl, h1, h2, h⟩
      · simp [dG, LV, h]
      · have hi : decide ((i : Int) < 0) = false := by simp
        simp only [Option.bind_some, Sum.elim_inr, hi, cond_false, Int.toNat_natCast]
        rw [bG ⟨by omega, by omega⟩, bG ⟨by omega, by omega⟩]
        have g1 : a.getD i default ∈ a := by simp [List.getD_eq_getElem?_getD, h1]
        have g2 : b.getD i default ∈ b := by simp [List.getD_eq_getElem?_getD, h2]
        rw [WS (ma _ g1) (mb _ g2), h]
        simp only [Option.bind_some]

end Go.Abs
namespace Go.Abs
open Go
def jE (e : aC) : aB := ⟨e.At, e.Net⟩

def gA (r : List aF) (f : List aB) : List aC → List (List aF × List aB)
  | [] => [(r, f)]
  | e :: l => if e.Row = r then gA r (f ++ [jE e]) l else (r, f) :: gA e.Row [jE e] l

def groups : List aC → List (List aF × List aB)
  | [] => []
  | e :: l => gA e.Row [jE e] l

def itG {σ : Type} (y : σ → List aF → List aB → Option (σ × Bool)) : List (List aF × List aB) → σ → Option σ
  | [], s => some s
  | g :: gs, s => (y s g.1 g.2).bind fun x => if x.2 then itG y gs x.1 else some x.1

def okL (l : List aC) : Prop := l.length ≤ 3518437208783 ∧ ∀ e ∈ l, e.Row.length ≤ 4398046510976

theorem CW {r : List aF} (h : r.length ≤ 4398046510976) : rD r = some r := by
  unfold rD
  rw [bG ⟨by omega, by omega, by omega⟩, bG (by simp only [List.length_nil, Nat.zero_add]; omega)]
  rfl

theorem IQ {σ : Type} {y : σ → List aF → List aB → Option (σ × Bool)} {l : List aC} (hl : okL l) (row : List aF) (sg : σ) : ∀ (r : List aC) (k : Nat) (f : List aB), l.drop k = r → k ≤ l.length → f.length ≤ k →
    ∃ k' f', k ≤ k' ∧ k' ≤ l.length ∧ f'.length ≤ k' ∧ lp (fun s : σ × Int × List aB => iF y l row s.1 s.2.1 s.2.2) (sg, (k : Int), f) = some (sg, ((k' : Nat) : Int), f') ∧
      gA row f r = (row, f') :: groups (l.drop k') ∧ (∀ e r', r = e :: r' → e.Row = row → k < k')
  | [], k, f, hd, hk, hf => by
    have : k = l.length := by
      have := congrArg List.length hd
      simp only [List.length_drop, List.length_nil] at this; omega
    subst this
    refine ⟨l.length, f, Nat.le_refl _, Nat.le_refl _, hf, cR ?_, by simp [gA, groups], fun e r' h => by cases h⟩
    show iF _ _ _ _ _ _ = _
    simp only [iF, lO, cZ, cond_false, Option.bind_some, Bool.false_and]
    exact bG (fun h => by cases h)
  | a :: r, k, f, hd, hk, hf => by
    obtain ⟨h1, h2⟩ := drop_cons hd
    have hlt : k < l.length := (List.getElem?_eq_some_iff.1 h1).1
    obtain ⟨hll, hlr⟩ := hl
    obtain ⟨d1, d2, d3, d4⟩ := idx h1 (by omega)
    have har := hlr a (List.mem_of_getElem? h1)
    have hb : (fun s : σ × Int × List aB => iF y l row s.1 s.2.1 s.2.2) (sg, (k : Int), f) = some (if a.Row = row then .inl (sg, ((k + 1 : Nat) : Int), f ++ [jE a]) else .inr (sg, (k : Int), f)) := by
      show iF _ _ _ _ _ _ = _
      simp only [iF, d1, d3, d4, cZ, cond_true, JM a.Row row (by omega), Option.bind_some, Bool.true_and]
      rw [bG (fun _ => d2)]
      by_cases e : a.Row = row
      · simp only [e, decide_true, cond_true, if_true]
        rw [bG d2, bG d2, bG (by simp only [List.length_cons, List.length_nil]; omega)]
        rfl
      · simp [e]
    by_cases e : a.Row = row
    · rw [if_pos e] at hb
      obtain ⟨k', f', g1, g2, g3, g4, g5, _⟩ := IQ ⟨hll, hlr⟩ row sg r (k + 1) (f ++ [jE a]) h2 (by omega) (by simp; omega) (y := y)
      refine ⟨k', f', by omega, g2, g3, by rw [eG hb]; exact g4, by simp [gA, e, g5], fun _ _ _ _ => by omega⟩
    · rw [if_neg e] at hb
      refine ⟨k, f, Nat.le_refl _, hk, hf, cR hb, ?_, fun b r' h hr => by cases h; exact absurd hr e⟩
      rw [hd]; simp [gA, e, groups]

theorem UC {σ : Type} {y : σ → List aF → List aB → Option (σ × Bool)} {l : List aC} (hl : okL l) : ∀ (m k : Nat) (sg s' : σ), l.length - k ≤ m → k ≤ l.length → itG y (groups (l.drop k)) sg = some s' →
    ∃ x, lp (fun s : σ × Int => fM y l s.1 s.2) (sg, (k : Int)) = some x ∧ Sum.elim id id x = s' := by
  have stop : ∀ (sg s' : σ), itG y (groups (l.drop l.length)) sg = some s' → ∃ x, lp (fun s : σ × Int => fM y l s.1 s.2) (sg, ((l.length : Nat) : Int)) = some x ∧ Sum.elim id id x = s' := by
    intro sg s' h
    rw [List.drop_length] at h
    simp only [groups, itG, Option.some.injEq] at h
    refine ⟨.inl sg, cR ?_, h⟩
    show fM _ _ _ _ = _
    simp only [fM, lO, cond_false]
  intro m
  induction m with
  | zero =>
    intro k sg s' hm hk h
    have : k = l.length := by omega
    subst this; exact stop sg s' h
  | succ m ih =>
    intro k sg s' hm hk h
    by_cases he : k = l.length
    · subst he; exact stop sg s' h
    · have hlt : k < l.length := by omega
      have hd : l.drop k = l[k] :: l.drop (k + 1) := List.drop_eq_getElem_cons hlt
      obtain ⟨d1, d2, d3, d4⟩ := idx (List.getElem?_eq_getElem hlt) (by have := hl.1; omega)
      obtain ⟨k', f', g1, g2, g3, g4, g5, g6⟩ := IQ hl l[k].Row sg (l.drop k) k [] rfl hk (by simp) (y := y)
      have hk' := g6 _ _ hd rfl
      have hg : groups (l.drop k) = (l[k].Row, f') :: groups (l.drop k') := by
        rw [← g5, hd]; simp [groups, gA]
      rw [hg] at h
      simp only [itG] at h
      obtain ⟨x, hx, h⟩ := aW h
      have hrow := hl.2 _ (List.getElem_mem hlt)
      have hb : (fun s : σ × Int => fM y l s.1 s.2) (sg, (k : Int)) = some (if x.2 then .inl (x.1, ((k' : Nat) : Int)) else .inr (.inr x.1)) := by
        show fM _ _ _ _ = _
        simp only [fM, d1, cond_true, bG d2, d3, qZ, g4, Option.bind_some, oU, CW hrow, hx]
        cases x.2 <;> simp
      cases hx2 : x.2
      · rw [hx2] at hb h
        simp only [Bool.false_eq_true, if_false, Option.some.injEq] at hb h
        exact ⟨_, cR hb, h⟩
      · rw [hx2] at hb h
        simp only [if_true] at hb h
        obtain ⟨z, hz1, hz2⟩ := ih k' x.1 s' (by omega) g2 h
        exact ⟨z, by rw [eG hb]; exact hz1, hz2⟩

theorem LG {σ : Type} {y : σ → List aF → List aB → Option (σ × Bool)} {l : List aC} (hl : okL l) {s s' : σ} (h : itG y (groups l) s = some s') : mD y l s = some s' := by
  unfold mD qW
  obtain ⟨x, h1, h2⟩ := UC hl l.length 0 s s' (by omega) (Nat.zero_le _) (by simpa using h)
  simp only [Int.natCast_zero] at h1
  rw [h1]
  cases x <;> simpa using h2

def ahd (last : Option (List aF)) (r : List aF) : Bool := match last with
  | none => true
  | some q => decide (iY q r < 0)

def vK (p : List aB → Bool) : Option (List aF) → List (List aF × List aB) → Bool
  | _, [] => true
  | last, g :: gs => (nQ g.1 && ahd last g.1 && p g.2) && vK p (some g.1) gs

theorem TN {holds : List aB → Option Bool} {p : List aB → Bool} (hp : ∀ f, holds f = some (p f)) (c : List aC) (t : Bool) : ∀ (gs : List (List aF × List aB)) (last : List aF) (b : Bool), (b = true → nQ last = true) →
    ∃ x, itG (fun st r f => rnd (fun (s : Bool × (List aF) × Bool) => oV holds c s.1 s.2.1 s.2.2 r f) st) gs (.inl (t, last, b)) = some x ∧
      (if vK p (if b then some last else none) gs then ∃ u, x = .inl (t, u) else ∃ u, x = .inr (false, u))
  | [], last, b, _ => ⟨_, rfl, by simp [vK]⟩
  | g :: gs, last, b, hb => by
    have hy : oV holds c t last b g.1 g.2 = some (if nQ g.1 && ahd (if b then some last else none) g.1 && p g.2 then .inl (t, g.1, true) else .inr (false, last, b)) := by
      unfold oV
      simp only [BT, Option.bind_some, MW, hp]
      cases hm : nQ g.1
      · simp [cZ]
      · cases b
        · cases h2 : p g.2 <;> simp [cZ, ahd, h2]
        · have hl := hb rfl
          by_cases h1 : iY last g.1 < 0
          · have h1' : ¬ (0 ≤ iY last g.1) := by omega
            cases h2 : p g.2 <;> simp [cZ, ahd, h2, hl, h1, h1']
          · have h1' : 0 ≤ iY last g.1 := by omega
            simp [cZ, ahd, hl, h1, h1']
    cases hc : (nQ g.1 && ahd (if b then some last else none) g.1 && p g.2)
    · rw [hc] at hy
      simp only [itG, rnd, hy, Option.bind_some, vK, hc]
      exact ⟨.inr (false, last, b), by simp, by simp⟩
    · rw [hc] at hy
      simp only [itG, rnd, hy, Option.bind_some, vK, hc]
      have hm : nQ g.1 = true := by simp only [Bool.and_eq_true] at hc; exact hc.1.1
      obtain ⟨x, h1, h2⟩ := TN hp c t gs g.1 true (fun _ => hm)
      refine ⟨x, ?_, ?_⟩
      · simpa [rnd] using h1
      · simpa using h2

theorem TA {l : List aC} (hl : okL l) {holds : List aB → Option Bool} {p : List aB → Bool} (hp : ∀ f, holds f = some (p f)) : sI l holds = some (decide (l.length ≤ 4096) && vK p none (groups l)) := by
  unfold sI
  by_cases h : l.length ≤ 4096
  · have h1 : decide ((4096 : Int) < ((l.length : Nat) : Int)) = false := by simp; omega
    rw [h1, cond_false]
    simp only [oG, Option.bind_some, wK]
    obtain ⟨x, e1, e2⟩ := TN hp l false (groups l) [] false (fun h => by cases h)
    rw [LG hl e1]
    simp only [Bool.false_eq_true, if_false] at e2
    simp only [h, decide_true, Bool.true_and]
    cases hc : vK p none (groups l)
    · rw [hc] at e2
      simp only [Bool.false_eq_true, if_false] at e2
      obtain ⟨u, rfl⟩ := e2
      rfl
    · rw [hc] at e2
      simp only [if_true] at e2
      obtain ⟨u, rfl⟩ := e2
      rfl
  · have h1 : decide ((4096 : Int) < ((l.length : Nat) : Int)) = true := by simp; omega
    rw [h1, cond_true]
    simp [h]

def qA (l : List aC) : Bool := decide (l.length ≤ 4096) && vK iK none (groups l)

theorem TJ {l : List aC} (hl : okL l) : uA l = some (qA l) := by
  unfold uA
  rw [TA hl (p := iK) (fun f => KH f)]; rfl

def LK (f : List aB) : Bool := iK f && decide (0 ≤ BM f)

def rG (l : List aC) : Bool := decide (l.length ≤ 4096) && vK LK none (groups l)

theorem WZ {l : List aC} (hl : okL l) : tB l = some (rG l) := by
  unfold tB
  rw [TA hl (p := LK) (fun f => by
    unfold qF LK
    rw [KH]
    cases h : iK f <;> simp [cZ, ZG, h])]
  rfl

def iB (r : List aF) (f : List aB) : List aC := f.map fun j => ⟨r, j.At, j.Net⟩

theorem put_eq {out : List aC} {r : List aF} {f : List aB} (hr : r.length ≤ 4398046510976) (hl : out.length + f.length ≤ 1099511627776) : wM out r f = some (out ++ iB r f) := by
  unfold wM xW
  rw [zL (l := f) (body := fun s : List aC × Int => oK r f (f.length : Nat) s.1 s.2) (fun o i => (o, i)) (fun o t => o ++ iB r t) (fun o t => o.length + t.length ≤ 1099511627776) out ?_ ?_ hl]
  · rfl
  · intro i a t o ha hi
    left
    obtain ⟨d1, d2, d3, d4⟩ := idx ha (by have := (List.getElem?_eq_some_iff.1 ha).1; omega)
    simp only [List.length_cons] at hi
    refine ⟨o ++ [⟨r, a.At, a.Net⟩], ?_, by simp; omega, by simp [iB]⟩
    show oK _ _ _ _ _ = _
    simp only [oK, d1, cond_true, bG d2, d3, d4, CW hr, Option.bind_some]
    exact bG (by simp only [List.length_cons, List.length_nil]; omega)
  · intro o _
    show oK _ _ _ _ _ = _
    simp only [oK, lO, cond_false]
    simp [iB]

def qI (by1 : List aB → List aB × Int) : List (List aF × List aB) → List aC → List aC × Int
  | [], out => (out, 0)
  | g :: gs, out => if (by1 g.2).2 ≠ 0 then ([], (by1 g.2).2) else if 4096 < (out ++ iB g.1 (by1 g.2).1).length then ([], 7) else qI by1 gs (out ++ iB g.1 (by1 g.2).1)

theorem MV {by0 : List aB → Option (List aB × Int)} {by1 : List aB → List aB × Int} (c : List aC) : ∀ (gs : List (List aF × List aB)) (out : List aC), out.length ≤ 4096 → (∀ g ∈ gs, by0 g.2 = some (by1 g.2) ∧ (by1 g.2).1.length ≤ 1024 ∧ g.1.length ≤ 4398046510976) →
    ∃ x, itG (fun st r f => rnd (fun (s : (List aC) × Int × List aC) => mY by0 c s.1 s.2.1 s.2.2 r f) st) gs (.inl ([], 0, out)) = some x ∧ Sum.elim (fun s : (List aC) × Int × List aC => (s.2.2, (0 : Int))) (fun s => (s.1, s.2.1)) x = qI by1 gs out
  | [], out, _, _ => ⟨_, rfl, rfl⟩
  | g :: gs, out, ho, hg => by
    obtain ⟨h1, h2, h3⟩ := hg g (by simp)
    have hy : mY by0 c [] 0 out g.1 g.2 = some (if (by1 g.2).2 ≠ 0 then .inr ([], (by1 g.2).2, out) else if 4096 < (out ++ iB g.1 (by1 g.2).1).length then .inr ([], 7, out ++ iB g.1 (by1 g.2).1) else .inl ([], 0, out ++ iB g.1 (by1 g.2).1)) := by
      unfold mY
      simp only [h1, Option.bind_some, put_eq h3 (show out.length + (by1 g.2).1.length ≤ 1099511627776 by omega)]
      by_cases e1 : (by1 g.2).2 = 0
      · by_cases e2 : 4096 < (out ++ iB g.1 (by1 g.2).1).length
        · have e2' : (4096 : Int) < (((out ++ iB g.1 (by1 g.2).1).length : Nat) : Int) := by omega
          simp only [e1, e2, e2', decide_true, Bool.not_true, cond_false, cond_true, ne_eq, not_true_eq_false, if_false, if_true]
        · have e2' : ¬ (4096 : Int) < (((out ++ iB g.1 (by1 g.2).1).length : Nat) : Int) := by omega
          simp only [e1, e2, e2', decide_true, decide_false, Bool.not_true, cond_false, ne_eq, not_true_eq_false, if_false]
      · simp only [e1, decide_false, Bool.not_false, cond_true, ne_eq, not_false_eq_true, if_true]
    simp only [itG, rnd, hy, Option.bind_some, qI]
    by_cases e1 : (by1 g.2).2 ≠ 0
    · rw [if_pos e1, if_pos e1]; exact ⟨_, rfl, rfl⟩
    · rw [if_neg e1, if_neg e1]
      by_cases e2 : 4096 < (out ++ iB g.1 (by1 g.2).1).length
      · rw [if_pos e2, if_pos e2]; exact ⟨_, rfl, rfl⟩
      · rw [if_neg e2, if_neg e2]
        exact MV c gs _ (by omega) (fun q hq => hg q (by simp [hq]))

theorem WG {l : List aC} (hl : okL l) {by0 : List aB → Option (List aB × Int)} {by1 : List aB → List aB × Int} (hb : ∀ g ∈ groups l, by0 g.2 = some (by1 g.2) ∧ (by1 g.2).1.length ≤ 1024 ∧ g.1.length ≤ 4398046510976) : rQ l by0 = some (qI by1 (groups l) []) := by
  unfold rQ
  simp only [oG, Option.bind_some, tW]
  obtain ⟨x, e1, e2⟩ := MV (by0 := by0) (by1 := by1) l (groups l) [] (by simp) hb
  rw [LG hl e1]
  cases x <;> simpa using e2

def flat (gs : List (List aF × List aB)) : List aC := gs.flatMap fun g => iB g.1 g.2

theorem LL : ∀ (l : List aC) (r : List aF) (f : List aB), flat (gA r f l) = iB r f ++ l
  | [], r, f => by simp [gA, flat]
  | e :: l, r, f => by
    unfold gA
    split
    · rename_i h
      rw [LL l r]
      simp [iB, jE, ← h]
    · have := LL l e.Row [jE e]
      simp only [flat, List.flatMap_cons] at this ⊢
      rw [this]
      simp [iB, jE]

theorem uO (l : List aC) : flat (groups l) = l := by
  cases l with
  | nil => rfl
  | cons e l => unfold groups; rw [LL]; simp [iB, jE]

theorem OG {r : List aF} : ∀ {l : List aC} {f : List aB} {g : List aF × List aB}, g ∈ gA r f l → f ≠ [] → g.2 ≠ [] ∧ (g.1 = r ∨ ∃ e ∈ l, g.1 = e.Row)
  | [], f, g, h, hf => by simp only [gA, List.mem_singleton] at h; subst h; exact ⟨hf, .inl rfl⟩
  | e :: l, f, g, h, hf => by
    unfold gA at h
    split at h
    · obtain ⟨h1, h2⟩ := OG h (by simp)
      exact ⟨h1, h2.imp id fun ⟨x, hx, hx'⟩ => ⟨x, by simp [hx], hx'⟩⟩
    · rcases List.mem_cons.1 h with rfl | h
      · exact ⟨hf, .inl rfl⟩
      · obtain ⟨h1, h2⟩ := OG (r := e.Row) h (by simp)
        refine ⟨h1, .inr ?_⟩
        rcases h2 with h2 | ⟨x, hx, hx'⟩
        · exact ⟨e, by simp, h2⟩
        · exact ⟨x, by simp [hx], hx'⟩

theorem zD {l : List aC} {g : List aF × List aB} (h : g ∈ groups l) : g.2 ≠ [] ∧ ∃ e ∈ l, g.1 = e.Row := by
  cases l with
  | nil => simp [groups] at h
  | cons e l =>
    obtain ⟨h1, h2⟩ := OG h (by simp)
    refine ⟨h1, ?_⟩
    rcases h2 with h2 | ⟨x, hx, hx'⟩
    · exact ⟨e, by simp, h2⟩
    · exact ⟨x, by simp [hx], hx'⟩

end Go.Abs
namespace Go.Abs
open Go
def cA (l : List aC) (r : List aF) : List aB := (l.filter fun e => decide (e.Row = r)).map jE

theorem oP (a b : List aC) (r : List aF) : cA (a ++ b) r = cA a r ++ cA b r := by simp [cA]

theorem NL (q : List aF) (f : List aB) (r : List aF) : cA (iB q f) r = if q = r then f else [] := by
  induction f with
  | nil => simp [cA, iB]
  | cons j f ih =>
    have h1 : iB q (j :: f) = [⟨q, j.At, j.Net⟩] ++ iB q f := rfl
    rw [h1, oP, ih]
    by_cases h : q = r <;> simp [cA, jE, h]

def look : List (List aF × List aB) → List aF → List aB
  | [], _ => []
  | g :: gs, r => if g.1 = r then g.2 else look gs r

theorem pM (g : List aF × List aB) (gs : List (List aF × List aB)) (r : List aF) : look (g :: gs) r = if g.1 = r then g.2 else look gs r := rfl

abbrev ltG (a b : List aF × List aB) : Prop := iY a.1 b.1 < 0

abbrev rC (gs : List (List aF × List aB)) : Prop := gs.Pairwise ltG

abbrev Full (gs : List (List aF × List aB)) : Prop := ∀ g ∈ gs, g.2 ≠ []

theorem mA {a : List aF} : ¬ iY a a < 0 := by rw [(jG.eq a a).2 rfl]; omega

theorem tO : ∀ {gs : List (List aF × List aB)} {r : List aF}, (∀ g ∈ gs, g.1 ≠ r) → look gs r = []
  | [], _, _ => rfl
  | g :: gs, r, h => by
    rw [pM]
    rw [if_neg (h g (by simp))]
    exact tO fun q hq => h q (by simp [hq])

theorem zA (gs : List (List aF × List aB)) (r : List aF) : (look gs r = [] ∧ ∀ g ∈ gs, g.1 ≠ r) ∨ ∃ g ∈ gs, g.1 = r ∧ look gs r = g.2 := by
  induction gs with
  | nil => exact .inl ⟨rfl, by simp⟩
  | cons g gs ih =>
    rw [pM]
    by_cases h : g.1 = r
    · rw [if_pos h]; exact .inr ⟨g, by simp, h, rfl⟩
    · rw [if_neg h]
      rcases ih with ⟨h1, h2⟩ | ⟨q, hq, h1, h2⟩
      · refine .inl ⟨h1, fun q hq => ?_⟩
        rcases List.mem_cons.1 hq with rfl | hq
        · exact h
        · exact h2 q hq
      · exact .inr ⟨q, by simp [hq], h1, h2⟩

theorem tL {gs : List (List aF × List aB)} (hs : rC gs) {g : List aF × List aB} (hg : g ∈ gs) : look gs g.1 = g.2 := by
  induction gs with
  | nil => simp at hg
  | cons q gs ih =>
    have hs' := List.pairwise_cons.1 hs
    rw [pM]
    rcases List.mem_cons.1 hg with rfl | hg
    · rw [if_pos rfl]
    · rw [if_neg (fun e => by have := hs'.1 g hg; simp only [ltG, e] at this; exact mA this)]
      exact ih hs'.2 hg

theorem tJ (g : List aF × List aB) (gs : List (List aF × List aB)) : flat (g :: gs) = iB g.1 g.2 ++ flat gs := rfl

theorem qK : ∀ {gs : List (List aF × List aB)}, rC gs → ∀ r, cA (flat gs) r = look gs r
  | [], _, r => rfl
  | g :: gs, hs, r => by
    have hs' := List.pairwise_cons.1 hs
    rw [tJ, oP, NL, qK hs'.2, pM]
    by_cases h : g.1 = r
    · rw [if_pos h, if_pos h, tO, List.append_nil]
      intro q hq e
      have := hs'.1 q hq
      simp only [ltG, h, e] at this; exact mA this
    · rw [if_neg h, if_neg h]; rfl

theorem TH : ∀ {gs hs : List (List aF × List aB)}, rC gs → rC hs → Full gs → Full hs → (∀ r, look gs r = look hs r) → gs = hs
  | [], [], _, _, _, _, _ => rfl
  | [], h :: hs, _, _, _, fh, he => by
    have := he h.1
    simp only [pM, look, if_true] at this
    exact absurd this.symm (fh h (by simp))
  | g :: gs, [], _, _, fg, _, he => by
    have := he g.1
    simp only [pM, look, if_true] at this
    exact absurd this (fg g (by simp))
  | g :: gs, h :: hs, sg, sh, fg, fh, he => by
    have sg' := List.pairwise_cons.1 sg
    have sh' := List.pairwise_cons.1 sh
    by_cases e : g.1 = h.1
    · have h2 := he g.1
      simp only [look, if_true, if_pos e.symm] at h2
      have ht : gs = hs := TH sg'.2 sh'.2 (fun q hq => fg q (by simp [hq])) (fun q hq => fh q (by simp [hq])) fun r => by
        by_cases hr : g.1 = r
        · subst hr
          rw [tO (gs := gs), tO (gs := hs)]
          · intro q hq e'; have := sh'.1 q hq; simp only [ltG, ← e, e'] at this; exact mA this
          · intro q hq e'; have := sg'.1 q hq; simp only [ltG, e'] at this; exact mA this
        · have := he r
          simp only [look, if_neg hr, if_neg (fun x => hr (e.trans x))] at this
          exact this
      rw [ht]
      obtain ⟨g1, g2⟩ := g
      obtain ⟨h1, h3⟩ := h
      simp only at e h2
      rw [e, h2]
    · exfalso
      have hne : iY g.1 h.1 ≠ 0 := fun x => e ((jG.eq _ _).1 x)
      by_cases hlt : iY g.1 h.1 < 0
      · have h2 := he g.1
        rw [tL sg (by simp), tO] at h2
        · exact fg g (by simp) h2
        · intro q hq e'
          rcases List.mem_cons.1 hq with rfl | hq
          · exact e e'.symm
          · have := jG.trans _ _ _ hlt (sh'.1 q hq)
            rw [e'] at this; exact mA this
      · have hlt' : iY h.1 g.1 < 0 := (jG.anti _ _).2 (by omega)
        have h2 := he h.1
        rw [tL sh (by simp), tO] at h2
        · exact fh h (by simp) h2.symm
        · intro q hq e'
          rcases List.mem_cons.1 hq with rfl | hq
          · exact e e'
          · have := jG.trans _ _ _ hlt' (sg'.1 q hq)
            rw [e'] at this; exact mA this

theorem tD {p : List aB → Bool} : ∀ {gs : List (List aF × List aB)} {last : Option (List aF)}, vK p last gs = true ↔ (∀ g ∈ gs, nQ g.1 = true ∧ p g.2 = true) ∧ rC gs ∧ (∀ q, last = some q → ∀ g ∈ gs, iY q g.1 < 0)
  | [], last => by simp [vK]
  | g :: gs, last => by
    unfold vK
    simp only [Bool.and_eq_true, tD (gs := gs), List.mem_cons, List.pairwise_cons]
    constructor
    · rintro ⟨⟨⟨h1, h2⟩, h3⟩, h4, h5, h6⟩
      refine ⟨?_, ⟨fun q hq => h6 _ rfl q hq, h5⟩, ?_⟩
      · rintro q (rfl | hq)
        · exact ⟨h1, h3⟩
        · exact h4 q hq
      · rintro q rfl x (rfl | hx)
        · simpa [ahd] using h2
        · simp only [ahd, decide_eq_true_eq] at h2
          exact jG.trans _ _ _ h2 (h6 _ rfl x hx)
    · rintro ⟨h1, ⟨h2, h3⟩, h4⟩
      refine ⟨⟨⟨(h1 g (.inl rfl)).1, ?_⟩, (h1 g (.inl rfl)).2⟩, fun q hq => h1 q (.inr hq), h3, ?_⟩
      · unfold ahd
        split
        · rfl
        · exact decide_eq_true (h4 _ rfl g (.inl rfl))
      · rintro q hq x hx
        cases hq
        exact h2 x hx

theorem RP (l : List aC) : Full (groups l) := fun _ hg => (zD hg).1

theorem oZ {l : List aC} (h : qA l = true) : l.length ≤ 4096 ∧ (∀ g ∈ groups l, nQ g.1 = true ∧ iK g.2 = true) ∧ rC (groups l) := by
  simp only [qA, Bool.and_eq_true, decide_eq_true_eq] at h
  obtain ⟨h1, h2, _⟩ := tD.1 h.2
  exact ⟨h.1, h1, h2⟩

theorem WI {l : List aC} (h : qA l = true) (r : List aF) : iK (look (groups l) r) = true := by
  rcases zA (groups l) r with ⟨h1, _⟩ | ⟨g, hg, _, h1⟩
  · rw [h1]; exact aAG
  · rw [h1]; exact ((oZ h).2.1 g hg).2

theorem mC {l : List aC} (h : rC (groups l)) (r : List aF) : look (groups l) r = cA l r := by
  rw [← qK h, uO]

theorem LD (r : List aF) (f : List aB) (e : aC) (l : List aC) : gA r f (e :: l) = if e.Row = r then gA r (f ++ [jE e]) l else (r, f) :: gA e.Row [jE e] l := rfl

theorem PJ (r : List aF) : ∀ (f2 f : List aB) (l : List aC), gA r f (iB r f2 ++ l) = gA r (f ++ f2) l
  | [], f, l => by simp [iB]
  | j :: f2, f, l => by
    show gA r f (⟨r, j.At, j.Net⟩ :: (iB r f2 ++ l)) = _
    rw [LD, if_pos rfl, PJ r f2]
    simp [jE]

theorem MH : ∀ {gs : List (List aF × List aB)}, rC gs → Full gs → groups (flat gs) = gs
  | [], _, _ => rfl
  | (r, f) :: gs, hs, hf => by
    have hs' := List.pairwise_cons.1 hs
    have hne := hf (r, f) (by simp)
    have ih := MH hs'.2 (fun g hg => hf g (by simp [hg]))
    cases f with
    | nil => exact absurd rfl hne
    | cons j f =>
      rw [tJ]
      show gA r [jE ⟨r, j.At, j.Net⟩] (iB r f ++ flat gs) = _
      rw [PJ]
      have key : ∀ (F : List aB), gA r F (flat gs) = (r, F) :: groups (flat gs) := by
        intro F
        cases gs with
        | nil => rfl
        | cons g gs =>
          obtain ⟨q, f'⟩ := g
          have hq := hf (q, f') (by simp)
          cases f' with
          | nil => exact absurd rfl hq
          | cons j' f' =>
            have hqr : q ≠ r := fun e => by
              have := hs'.1 (q, j' :: f') (by simp)
              simp only [ltG, e] at this; exact mA this
            rw [tJ]
            show gA r F (⟨q, j'.At, j'.Net⟩ :: (iB q f' ++ flat gs)) = _
            rw [gA, if_neg hqr]
            rfl
      rw [key, ih]
      rfl

def BH (gs : List (List aF × List aB)) : List (List aF × List aB) := gs.filter fun g => !g.2.isEmpty

theorem wA : ∀ (gs : List (List aF × List aB)), flat (BH gs) = flat gs
  | [] => rfl
  | (r, []) :: gs => by
    have : BH ((r, []) :: gs) = BH gs := rfl
    rw [this, wA gs, tJ]; rfl
  | (r, j :: f) :: gs => by
    have : BH ((r, j :: f) :: gs) = (r, j :: f) :: BH gs := rfl
    rw [this, tJ, tJ, wA gs]

theorem MR (gs : List (List aF × List aB)) : Full (BH gs) := by
  intro g hg
  have := (List.mem_filter.1 hg).2
  intro h; rw [h] at this; simp at this

theorem AW {gs : List (List aF × List aB)} (hs : rC gs) : groups (flat gs) = BH gs := by
  rw [← wA]
  exact MH (hs.filter _) (MR gs)

theorem WW {gs : List (List aF × List aB)} (hs : rC gs) (r : List aF) : look (groups (flat gs)) r = look gs r := by
  have h1 := qK (gs := BH gs) (hs.filter _) r
  rw [AW hs, ← h1, ← qK hs, wA]

theorem XC {gs : List (List aF × List aB)} (hs : rC gs) (hm : ∀ g ∈ gs, nQ g.1 = true ∧ iK g.2 = true) (hl : (flat gs).length ≤ 4096) : qA (flat gs) = true := by
  simp only [qA, Bool.and_eq_true, decide_eq_true_eq]
  refine ⟨hl, tD.2 ?_⟩
  rw [AW hs]
  exact ⟨fun g hg => hm g (List.mem_filter.1 hg).1, hs.filter _, by simp⟩

def uI (by1 : List aB → List aB × Int) (gs : List (List aF × List aB)) : List (List aF × List aB) := gs.map fun g => (g.1, (by1 g.2).1)

theorem IK {by1 : List aB → List aB × Int} {gs : List (List aF × List aB)} (hs : rC gs) : rC (uI by1 gs) := by
  rw [rC, uI, List.pairwise_map]; exact hs

theorem FJ {by1 : List aB → List aB × Int} (h0 : (by1 []).1 = []) : ∀ (gs : List (List aF × List aB)) (r : List aF), look (uI by1 gs) r = (by1 (look gs r)).1
  | [], r => h0.symm
  | g :: gs, r => by
    show look ((g.1, (by1 g.2).1) :: uI by1 gs) r = _
    rw [pM, pM]
    by_cases h : g.1 = r
    · rw [if_pos h, if_pos h]
    · rw [if_neg h, if_neg h]; exact FJ h0 gs r

theorem SS {by1 : List aB → List aB × Int} : ∀ {gs : List (List aF × List aB)} {out : List aC}, out.length ≤ 4096 → (qI by1 gs out).2 = 0 → (∀ g ∈ gs, (by1 g.2).2 = 0) ∧ (qI by1 gs out).1 = out ++ flat (uI by1 gs) ∧ (qI by1 gs out).1.length ≤ 4096
  | [], out, ho, _ => by simp [qI, uI, flat, ho]
  | g :: gs, out, ho, h => by
    unfold qI at h ⊢
    by_cases e1 : (by1 g.2).2 = 0
    · rw [if_neg (by simp [e1])] at h ⊢
      by_cases e2 : 4096 < (out ++ iB g.1 (by1 g.2).1).length
      · rw [if_pos e2] at h; simp at h
      · rw [if_neg e2] at h ⊢
        obtain ⟨h1, h2, h3⟩ := SS (by omega) h
        refine ⟨?_, ?_, h3⟩
        · intro q hq
          rcases List.mem_cons.1 hq with rfl | hq
          · exact e1
          · exact h1 q hq
        · rw [h2]; simp [uI, tJ]
    · rw [if_pos e1] at h; exact absurd h e1

theorem QN {by1 : List aB → List aB × Int} : ∀ {gs : List (List aF × List aB)} {out : List aC}, (∀ g ∈ gs, (by1 g.2).2 = 0) → (out ++ flat (uI by1 gs)).length ≤ 4096 → qI by1 gs out = (out ++ flat (uI by1 gs), 0)
  | [], out, _, _ => by simp [qI, uI, flat]
  | g :: gs, out, h, hl => by
    unfold qI
    have hf : flat (uI by1 (g :: gs)) = iB g.1 (by1 g.2).1 ++ flat (uI by1 gs) := rfl
    rw [hf] at hl ⊢
    rw [if_neg (by simp [h g (by simp)]), if_neg (by simp only [List.length_append] at hl ⊢; omega), QN (fun q hq => h q (by simp [hq])) (by simpa using hl)]
    simp

theorem RE {by1 : List aB → List aB × Int} : ∀ {gs : List (List aF × List aB)} {out : List aC}, (qI by1 gs out).2 ≠ 0 → (qI by1 gs out).1 = []
  | [], out, h => by simp [qI] at h
  | g :: gs, out, h => by
    unfold qI at h ⊢
    split
    · rfl
    · rename_i e1
      rw [if_neg e1] at h
      split
      · rfl
      · rename_i e2
        rw [if_neg e2] at h
        exact RE h

theorem LW {l : List aC} (hl : okL l) {g : List aF × List aB} (hg : g ∈ groups l) : g.1.length ≤ 4398046510976 := by
  obtain ⟨_, e, he, h⟩ := zD hg
  rw [h]; exact hl.2 e he

end Go.Abs
namespace Go.Abs
theorem VV : @dJ = @nD aC _ := rfl

theorem UQ : @dQ = @dU aC _ := rfl

theorem OS (cmp) : ∀ k, @fS cmp k = @dW aC _ cmp k
  | 0 => rfl
  | k + 1 => by
    show dQ cmp _ = dU cmp _
    rw [OS cmp k, UQ]

theorem YE : @eD = @oE aC _ := by
  funext d a m b cmp
  unfold eD oE
  simp only [OS]

theorem PU : @fA = @wD aC _ := by
  funext d n cmp
  unfold fA wD gX xR
  unfold iA lW eS yB
  unfold gV xZ iI jK
  unfold hU uX gT lY
  unfold eU uR
  rw [YE, VV]
  rfl

end Go.Abs
namespace Go.Abs
open Go
theorem FW {l : List aC} {f : aC → Option Bool} {g : aC → Bool} (hl : l.length ≤ 1099511627776) (hf : ∀ x ∈ l, f x = some (g x)) : cP l f = some (l.any g) := by
  unfold cP fJ fF
  obtain ⟨x, e, hx⟩ := zZ hl hf l 0 rfl (Nat.zero_le _)
  have e' : lp (fun s => fD f l (l.length : Nat) s) 0 = some x := e
  rw [e']
  rcases hx with ⟨rfl, h⟩ | ⟨i, rfl, _, _, h, _⟩
  · simp [dM, h]
  · simp [h]

def unE (e : aC) : Bool := ((!nQ e.Row) || (decide ((1048576 : Int) < e.Net))) || (decide (e.Net < (-1048576 : Int)))

def AD (e : aC) : Bool := (decide (e.At < (-1 : Int))) || (decide ((1125899906842624 : Int) < e.At))

def UD (x y : aC) : Int := if iY x.Row y.Row ≠ 0 then iY x.Row y.Row else pV x.At y.At

abbrev okE (x : aC) : Prop := nQ x.Row = true

abbrev leE (x y : aC) : Prop := iY x.Row y.Row < 0 ∨ (x.Row = y.Row ∧ x.At ≤ y.At)

theorem or_eq (a b : Int) : tH [a, b] = some (if a ≠ 0 then a else b) := by
  unfold tH vB
  have w1 : IntKind.i64.wrap (1 : Int) = 1 := by rw [gM] <;> omega
  have w2 : IntKind.i64.wrap (2 : Int) = 2 := by rw [gM] <;> omega
  have b0 : (fun s => gL 0 [a, b] (([a, b] : List Int).length : Nat) s) (0 : Int) = some (if a ≠ 0 then .inr (.inr a) else .inl 1) := by
    show gL _ _ _ _ = _
    unfold gL
    rw [bG ⟨by omega, by simp⟩]
    by_cases h : a = 0 <;> simp [h, w1]
  have b1 : (fun s => gL 0 [a, b] (([a, b] : List Int).length : Nat) s) (1 : Int) = some (if b ≠ 0 then .inr (.inr b) else .inl 2) := by
    show gL _ _ _ _ = _
    unfold gL
    rw [bG ⟨by omega, by simp⟩]
    by_cases h : b = 0 <;> simp [h, w2]
  have b2 : (fun s => gL 0 [a, b] (([a, b] : List Int).length : Nat) s) (2 : Int) = some (.inr (.inl ())) := by
    show gL _ _ _ _ = _
    unfold gL
    simp
  by_cases h : a = 0
  · rw [if_neg (by simp [h])] at b0
    rw [eG b0]
    by_cases h2 : b = 0
    · rw [if_neg (by simp [h2])] at b1
      rw [eG b1, cR b2]
      simp [rV, h, h2]
    · rw [if_pos h2] at b1
      rw [cR b1]
      simp [h]
  · rw [if_pos h] at b0
    rw [cR b0]
    simp [h]

theorem aAO {x y : aC} (hx : okE x) (hy : okE y) : mQ x y = some (UD x y) := by
  unfold mQ UD
  rw [MW, hx, hy]
  simp only [Bool.and_self, if_true, Option.bind_some, LV, or_eq]

theorem aAL (x y : aC) : UD x y < 0 ↔ ¬ leE y x := by
  unfold UD leE
  have ha := jG.anti x.Row y.Row
  have hb := jG.anti y.Row x.Row
  have he := jG.eq x.Row y.Row
  by_cases h : iY x.Row y.Row = 0
  · rw [if_neg (by simp [h])]
    have e := he.1 h
    have : ¬ iY y.Row x.Row < 0 := by rw [e]; exact mA
    unfold pV
    constructor
    · intro h1 h2
      rcases h2 with h2 | ⟨_, h2⟩
      · exact this h2
      · split at h1
        · omega
        · split at h1 <;> omega
    · intro h1
      have : ¬ y.At ≤ x.At := fun h2 => h1 (.inr ⟨e.symm, h2⟩)
      rw [if_pos (by omega)]; omega
  · rw [if_pos h]
    have hne : y.Row ≠ x.Row := fun e => h (he.2 e.symm)
    constructor
    · intro h1 h2
      rcases h2 with h2 | ⟨h2, _⟩
      · have := hb.1 h2; omega
      · exact hne h2
    · intro h1
      have : ¬ iY y.Row x.Row < 0 := fun h2 => h1 (.inl h2)
      rw [hb] at this
      omega

theorem WK (x y : aC) : leE x y ∨ leE y x := by
  unfold leE
  by_cases h : iY x.Row y.Row = 0
  · have e := (jG.eq _ _).1 h
    rcases Int.le_total x.At y.At with h1 | h1
    · exact .inl (.inr ⟨e, h1⟩)
    · exact .inr (.inr ⟨e.symm, h1⟩)
  · by_cases h1 : iY x.Row y.Row < 0
    · exact .inl (.inl h1)
    · exact .inr (.inl ((jG.anti _ _).2 (by omega)))

theorem WO {x y z : aC} (h1 : leE x y) (h2 : leE y z) : leE x z := by
  rcases h1 with h1 | ⟨e1, h1⟩ <;> rcases h2 with h2 | ⟨e2, h2⟩
  · exact .inl (jG.trans _ _ _ h1 h2)
  · exact .inl (e2 ▸ h1)
  · exact .inl (e1.symm ▸ h2)
  · exact .inr ⟨e1.trans e2, by omega⟩

theorem aBG : Cmp okE leE (fun y0 y1 => mQ y0 y1) where
  ans x y hx hy := ⟨_, aAO hx hy, aAL x y⟩
  trans x y z _ _ _ h1 h2 := WO h1 h2
  total x y _ _ := WK x y

theorem aBB {l : List aC} (hl : l.length ≤ 1099511627776) (ho : ∀ e ∈ l, okE e) : ∃ r, r.Perm l ∧ Srt leE r ∧ cW l (fun y0 y1 => mQ y0 y1) = some r := by
  obtain ⟨r, r1, r2, r3⟩ := MF aBG (d := l) ho hl
  refine ⟨r, r1, r2, ?_⟩
  unfold cW
  rw [PU, r3]; rfl

theorem PD : ∀ {l : List aC} {r : List aF} {f : List aB}, Srt leE l → (∀ e ∈ l, e.Row = r ∨ iY r e.Row < 0) → rC (gA r f l) ∧ ∀ g ∈ gA r f l, g.1 = r ∨ iY r g.1 < 0
  | [], r, f, _, _ => by simp [gA]
  | e :: l, r, f, hs, hr => by
    have hs' := List.pairwise_cons.1 hs
    rw [LD]
    by_cases h : e.Row = r
    · rw [if_pos h]
      exact PD hs'.2 (fun x hx => hr x (by simp [hx]))
    · rw [if_neg h]
      have hlt : iY r e.Row < 0 := (hr e (by simp)).resolve_left h
      obtain ⟨h1, h2⟩ := PD (r := e.Row) (f := [jE e]) hs'.2 (fun x hx => by
        rcases hs'.1 x hx with h | ⟨h, _⟩
        · exact .inr h
        · exact .inl h.symm)
      have key : ∀ g ∈ gA e.Row [jE e] l, iY r g.1 < 0 := fun g hg => by
        rcases h2 g hg with h | h
        · rw [h]; exact hlt
        · exact jG.trans _ _ _ hlt h
      refine ⟨List.pairwise_cons.2 ⟨key, h1⟩, ?_⟩
      intro g hg
      rcases List.mem_cons.1 hg with rfl | hg
      · exact .inl rfl
      · exact .inr (key g hg)

theorem rA {l : List aC} (hs : Srt leE l) : rC (groups l) := by
  cases l with
  | nil => exact List.Pairwise.nil
  | cons e l =>
    have hs' := List.pairwise_cons.1 hs
    exact (PD hs'.2 (fun x hx => by
      rcases hs'.1 x hx with h | ⟨h, _⟩
      · exact .inr h
      · exact .inl h.symm)).1

abbrev DC (rs : List (List aF)) : Prop := rs.Pairwise fun a b => iY a b < 0

def zX (r : List aF) : List (List aF) → List (List aF)
  | [] => [r]
  | x :: xs => if iY x r < 0 then x :: zX r xs else if x = r then x :: xs else r :: x :: xs

def rowsOf (l : List aC) : List (List aF) := l.foldl (fun rs e => zX e.Row rs) []

theorem HP {r x : List aF} : ∀ {rs : List (List aF)}, x ∈ zX r rs ↔ x = r ∨ x ∈ rs
  | [] => by simp [zX]
  | y :: ys => by
    unfold zX
    split
    · simp only [List.mem_cons, HP (rs := ys)]
      constructor
      · rintro (h | h | h)
        · exact .inr (.inl h)
        · exact .inl h
        · exact .inr (.inr h)
      · rintro (h | h | h)
        · exact .inr (.inl h)
        · exact .inl h
        · exact .inr (.inr h)
    · split
      · rename_i h; subst h; simp
      · simp

theorem QY {r : List aF} : ∀ {rs : List (List aF)}, DC rs → DC (zX r rs)
  | [], _ => by simp [zX]
  | y :: ys, hs => by
    have hs' := List.pairwise_cons.1 hs
    unfold zX
    split
    · rename_i h
      refine List.pairwise_cons.2 ⟨fun z hz => ?_, QY hs'.2⟩
      rcases HP.1 hz with rfl | hz
      · exact h
      · exact hs'.1 z hz
    · rename_i h
      split
      · exact hs
      · rename_i hne
        have hlt : iY r y < 0 := by
          have h0 : iY y r ≠ 0 := fun e => hne ((jG.eq _ _).1 e)
          exact (jG.anti _ _).2 (by omega)
        refine List.pairwise_cons.2 ⟨fun z hz => ?_, hs⟩
        rcases List.mem_cons.1 hz with rfl | hz
        · exact hlt
        · exact jG.trans _ _ _ hlt (hs'.1 z hz)

theorem FA : ∀ (l : List aC) (rs : List (List aF)), DC rs → DC (l.foldl (fun rs e => zX e.Row rs) rs) ∧ ∀ x, x ∈ l.foldl (fun rs e => zX e.Row rs) rs ↔ x ∈ rs ∨ ∃ e ∈ l, e.Row = x
  | [], rs, hs => ⟨hs, by simp⟩
  | e :: l, rs, hs => by
    obtain ⟨h1, h2⟩ := FA l (zX e.Row rs) (QY hs)
    refine ⟨h1, fun x => ?_⟩
    simp only [List.foldl_cons]
    rw [h2 x, HP]
    simp only [List.mem_cons, exists_eq_or_imp]
    constructor
    · rintro ((h | h) | h)
      · exact .inr (.inl h.symm)
      · exact .inl h
      · exact .inr (.inr h)
    · rintro (h | h | h)
      · exact .inl (.inr h)
      · exact .inl (.inl h.symm)
      · exact .inr h

theorem wX (l : List aC) : DC (rowsOf l) := (FA l [] List.Pairwise.nil).1

theorem rE {l : List aC} {x : List aF} : x ∈ rowsOf l ↔ ∃ e ∈ l, e.Row = x := by
  have := (FA l [] List.Pairwise.nil).2 x
  simpa [rowsOf] using this

theorem IB : ∀ {a b : List (List aF)}, DC a → DC b → (∀ x, x ∈ a ↔ x ∈ b) → a = b
  | [], [], _, _, _ => rfl
  | [], y :: ys, _, _, h => absurd ((h y).2 (by simp)) (by simp)
  | x :: xs, [], _, _, h => absurd ((h x).1 (by simp)) (by simp)
  | x :: xs, y :: ys, ha, hb, h => by
    have ha' := List.pairwise_cons.1 ha
    have hb' := List.pairwise_cons.1 hb
    have e : x = y := by
      rcases List.mem_cons.1 ((h x).1 (by simp)) with h1 | h1
      · exact h1
      · rcases List.mem_cons.1 ((h y).2 (by simp)) with h2 | h2
        · exact h2.symm
        · exact absurd (jG.trans _ _ _ (hb'.1 x h1) (ha'.1 y h2)) mA
    subst e
    rw [IB ha'.2 hb'.2 fun z => ?_]
    constructor
    · intro hz
      rcases List.mem_cons.1 ((h z).1 (by simp [hz])) with h1 | h1
      · subst h1; exact absurd (ha'.1 z hz) mA
      · exact h1
    · intro hz
      rcases List.mem_cons.1 ((h z).2 (by simp [hz])) with h1 | h1
      · subst h1; exact absurd (hb'.1 z hz) mA
      · exact h1

def pZ (l : List aC) : List (List aF × List aB) := (rowsOf l).map fun r => (r, cA l r)

theorem IM (l : List aC) : rC (pZ l) := by
  rw [rC, pZ, List.pairwise_map]; exact wX l

theorem RX {l : List aC} {r : List aF} (h : ∀ e ∈ l, e.Row ≠ r) : cA l r = [] := by
  unfold cA
  rw [List.map_eq_nil_iff, List.filter_eq_nil_iff]
  intro e he
  simpa using h e he

theorem AP (l : List aC) (r : List aF) : look (pZ l) r = cA l r := by
  rcases zA (pZ l) r with ⟨h1, h2⟩ | ⟨g, hg, h1, h2⟩
  · rw [h1, RX]
    intro e he hr
    have : (r, cA l r) ∈ pZ l := List.mem_map.2 ⟨r, rE.2 ⟨e, he, hr⟩, rfl⟩
    exact h2 _ this rfl
  · rw [h2]
    obtain ⟨q, _, rfl⟩ := List.mem_map.1 hg
    simp only at h1
    rw [h1]

theorem ER {a b : List aC} (h : a.Perm b) (r : List aF) : (cA a r).Perm (cA b r) := (h.filter _).map _

theorem HA {l l' : List aC} (hp : l'.Perm l) (hs : Srt leE l') : (groups l').map (·.1) = rowsOf l := by
  refine IB ?_ (wX l) fun x => ?_
  · rw [DC, List.pairwise_map]; exact rA hs
  · rw [rE]
    constructor
    · intro h
      obtain ⟨g, hg, rfl⟩ := List.mem_map.1 h
      obtain ⟨_, e, he, h1⟩ := zD hg
      exact ⟨e, hp.mem_iff.1 he, h1.symm⟩
    · rintro ⟨e, he, rfl⟩
      have he' : e ∈ flat (groups l') := by rw [uO]; exact hp.mem_iff.2 he
      obtain ⟨g, hg, h1⟩ := List.mem_flatMap.1 he'
      obtain ⟨j, _, rfl⟩ := List.mem_map.1 h1
      exact List.mem_map.2 ⟨g, hg, rfl⟩

theorem CP {l : List aB} (ht : ∀ j ∈ l, -2 < j.At) : Up (-2) (vL l) :=
  DG (by rw [List.map_map]; simpa [Function.comp_def] using ES ht)

theorem FQ {l : List aB} (ht : ∀ j ∈ l, -2 < j.At) {t : Int} (h1 : -2 < t) (h2 : t < 1125899906842624) : val (vL l) t = val l t := by
  have h0 : val l (-2) = 0 := wF fun j hj => ht j hj
  have := FG (F := val l) (ES ht) (fun s t' _ hst hlt hn => BB hst fun j hj hc => hn j.At (HM.2 (Or.inr ⟨j, List.mem_filter.2 ⟨hj, by simp; omega⟩, rfl⟩)) hc) t (by omega) h2
  rw [h0] at this
  unfold vL
  rw [this]; omega

theorem VB {f g : List aB} (h : f.Perm g) (hf : f.any xG = false) : vL f = vL g := by
  have hg : ∀ j ∈ g, -2 < j.At := fun j hj => (xK hf j (h.mem_iff.2 hj)).1
  exact IA (fun j hj => (xK hf j hj).1) (CP hg) fun t h1 h2 => by rw [FQ hg h1 h2, QD h]

theorem HZ {f g : List aB} (h : f.Perm g) (p : aB → Bool) : f.any p = g.any p := by
  cases h1 : g.any p
  · rw [List.any_eq_false] at h1 ⊢
    exact fun x hx => h1 x (h.mem_iff.1 hx)
  · obtain ⟨x, hx, hp⟩ := List.any_eq_true.1 h1
    exact List.any_eq_true.2 ⟨x, h.mem_iff.2 hx, hp⟩

theorem KE {f g : List aB} (h : f.Perm g) : jC f = jC g := by
  unfold jC
  rw [HZ h rZ, HZ h xG]
  split
  · rfl
  · split
    · rfl
    · rename_i h2
      rw [VB h (by rw [HZ h xG]; simpa using h2)]

theorem XT (l : List aB) : (jC l).1.length ≤ 1024 := by
  unfold jC
  split
  · simp
  · split
    · simp
    · exact YM _

theorem CT {by1 : List aB → List aB × Int} : ∀ {gs hs : List (List aF × List aB)} {out : List aC}, gs.map (fun g => (g.1, by1 g.2)) = hs.map (fun g => (g.1, by1 g.2)) → qI by1 gs out = qI by1 hs out
  | [], [], _, _ => rfl
  | [], _ :: _, _, h => by simp at h
  | _ :: _, [], _, h => by simp at h
  | g :: gs, k :: hs, out, h => by
    simp only [List.map_cons, List.cons.injEq, Prod.mk.injEq] at h
    obtain ⟨⟨h1, h2⟩, h3⟩ := h
    unfold qI
    rw [h1, h2]
    split
    · rfl
    · split
      · rfl
      · exact CT h3

theorem RJ {l l' : List aC} (hp : l'.Perm l) (hs : Srt leE l') : (groups l').map (fun g => (g.1, jC g.2)) = (pZ l).map (fun g => (g.1, jC g.2)) := by
  have h1 : (groups l').map (fun g => (g.1, jC g.2)) = ((groups l').map (·.1)).map (fun r => (r, jC (cA l r))) := by
    rw [List.map_map]
    apply List.map_congr_left
    intro g hg
    have hj : g.2 = cA l' g.1 := by rw [← mC (rA hs), tL (rA hs) hg]
    simp only [Function.comp]
    rw [hj, KE (ER hp g.1)]
  rw [h1, HA hp hs, pZ, List.map_map]
  rfl

def iZ (l : List aC) : List aC × Int := if l.any unE then ([], 2) else if l.any AD then ([], 13) else qI jC (pZ l) []

theorem LA {l : List aC} (h : l.any unE = false) : ∀ e ∈ l, nQ e.Row = true ∧ e.Net ≤ 1048576 ∧ -1048576 ≤ e.Net := by
  intro e he
  have := List.any_eq_false.1 h e he
  simp only [unE, Bool.or_eq_true, not_or, Bool.not_eq_true', decide_eq_true_eq, Bool.not_eq_false, Bool.not_eq_true] at this
  exact ⟨by simpa using this.1.1, by omega, by omega⟩

theorem ZF {l : List aC} (hl : okL l) (hn : l.length ≤ 1099511627776) : uN l = some (iZ l) := by
  unfold uN iZ
  rw [FW (g := unE) hn (fun x _ => by simp [rU, BT, unE])]
  simp only [Option.bind_some]
  cases h1 : l.any unE
  · rw [FW (f := fun y0 => rM y0) (g := AD) hn (fun x _ => rfl)]
    simp only [cond_false, Option.bind_some, Bool.false_eq_true, if_false]
    cases h2 : l.any AD
    · simp only [cond_false, Bool.false_eq_true, if_false]
      have hc : eW l = some l := by unfold eW; exact bG ⟨by omega, by omega⟩
      obtain ⟨r, r1, r2, r3⟩ := aBB hn (fun e he => (LA h1 e he).1)
      rw [hc]
      simp only [Option.bind_some]
      rw [r3]
      simp only [Option.bind_some]
      have hr : okL r := ⟨by rw [r1.length_eq]; exact hl.1, fun e he => hl.2 e (r1.mem_iff.1 he)⟩
      rw [WG hr (by1 := jC) (fun g hg => ⟨by
        unfold rY
        have hgl : g.2.length ≤ 1099511627776 := by
          have h3 : g.2 = cA r g.1 := by rw [← mC (rA r2), tL (rA r2) hg]
          rw [h3, cA, List.length_map]
          exact Nat.le_trans (List.length_filter_le _ _) (by rw [r1.length_eq]; exact hn)
        rw [norm_eq hgl]; rfl, XT _, LW hr hg⟩)]
      simp only [Option.bind_some]
      rw [CT (RJ r1 r2)]
    · simp
  · simp

theorem LZ : jC [] = ([], 0) := rfl

theorem CR {l : List aC} (h : (iZ l).2 = 0) : l.any unE = false ∧ l.any AD = false ∧ (∀ g ∈ pZ l, (jC g.2).2 = 0) ∧ (iZ l).1 = flat (uI jC (pZ l)) ∧ (iZ l).1.length ≤ 4096 := by
  unfold iZ at h ⊢
  cases h1 : l.any unE
  · rw [h1] at h
    simp only [Bool.false_eq_true, if_false] at h ⊢
    cases h2 : l.any AD
    · rw [h2] at h
      simp only [Bool.false_eq_true, if_false] at h ⊢
      obtain ⟨a, b, c⟩ := SS (by simp) h
      exact ⟨trivial, trivial, a, by simpa using b, c⟩
    · rw [h2] at h; simp at h
  · rw [h1] at h; simp at h

theorem VG {l : List aC} (h : (iZ l).2 = 0) (r : List aF) : look (groups (iZ l).1) r = (jC (cA l r)).1 := by
  obtain ⟨_, _, _, h4, _⟩ := CR h
  rw [h4, WW (IK (IM l)), FJ (by rw [LZ]), AP]

theorem HX {f : List aB} (h : (jC f).2 = 0) : f.any rZ = false ∧ f.any xG = false ∧ iK (vL f) = true ∧ jC f = (vL f, 0) := by
  unfold jC at h ⊢
  cases h1 : f.any rZ
  · rw [h1] at h
    simp only [Bool.false_eq_true, if_false] at h ⊢
    cases h2 : f.any xG
    · rw [h2] at h
      simp only [Bool.false_eq_true, if_false] at h ⊢
      unfold told at h ⊢
      cases h3 : iK (vL f)
      · rw [h3] at h; simp at h
      · simp
    · rw [h2] at h; simp at h
  · rw [h1] at h; simp at h

theorem MB {l : List aC} (h : (iZ l).2 = 0) (r : List aF) : (jC (cA l r)).2 = 0 := by
  obtain ⟨_, _, h3, _, _⟩ := CR h
  rcases zA (pZ l) r with ⟨e, _⟩ | ⟨g, hg, _, e⟩
  · rw [AP] at e; rw [e]; rfl
  · rw [AP] at e; rw [e]; exact h3 g hg

theorem MO {l : List aC} (h : (iZ l).2 = 0) : qA (iZ l).1 = true := by
  obtain ⟨h1, _, h3, h4, h5⟩ := CR h
  rw [h4] at h5 ⊢
  refine XC (IK (IM l)) (fun g hg => ?_) h5
  obtain ⟨q, hq, rfl⟩ := List.mem_map.1 hg
  have h6 := HX (h3 q hq)
  obtain ⟨r, hr, rfl⟩ := List.mem_map.1 hq
  obtain ⟨e, he, rfl⟩ := rE.1 hr
  exact ⟨(LA h1 e he).1, by rw [h6.2.2.2]; exact h6.2.2.1⟩

theorem VK {l : List aC} (h : (iZ l).2 ≠ 0) : (iZ l).1 = [] := by
  unfold iZ at h ⊢
  split
  · rfl
  · rename_i h1
    rw [if_neg h1] at h
    split
    · rfl
    · rename_i h2
      rw [if_neg h2] at h
      exact RE h

theorem VF {a b : List aC} (h : a.Perm b) : iZ a = iZ b := by
  have ha : ∀ p : aC → Bool, a.any p = b.any p := fun p => by
    cases h1 : b.any p
    · rw [List.any_eq_false] at h1 ⊢
      exact fun x hx => h1 x (h.mem_iff.1 hx)
    · obtain ⟨x, hx, hp⟩ := List.any_eq_true.1 h1
      exact List.any_eq_true.2 ⟨x, h.mem_iff.2 hx, hp⟩
  unfold iZ
  rw [ha unE, ha AD]
  have hr : rowsOf a = rowsOf b := IB (wX a) (wX b) fun x => by
    rw [rE, rE]
    exact ⟨fun ⟨e, he, h1⟩ => ⟨e, h.mem_iff.1 he, h1⟩, fun ⟨e, he, h1⟩ => ⟨e, h.mem_iff.2 he, h1⟩⟩
  rw [CT (gs := pZ a) (hs := pZ b)]
  unfold pZ
  rw [hr, List.map_map, List.map_map]
  apply List.map_congr_left
  intro r _
  simp only [Function.comp]
  rw [KE (ER h r)]

end Go.Abs
namespace Go.Abs
open Go
def NV (s : aS) : Bool := (decide (0 ≤ s.From) && decide (s.From ≤ 1125899906842624)) && (decide (0 ≤ s.To) && decide (s.To ≤ 1125899906842624)) && decide (s.From < s.To)

theorem UZ (s : aS) : xA s = some (NV s) := by
  unfold xA uV NV
  simp only [Option.bind_some]
  cases h : (decide (0 ≤ s.From) && decide (s.From ≤ 1125899906842624)) <;> simp [cZ]

end Go.Abs
namespace Go.Abs
open Go
theorem LM : okL [] := ⟨by simp, by simp⟩

theorem ZB {gs : List (List aF × List aB)} (h : ∀ g ∈ gs, g.1.length ≤ 4398046510976) (hl : (flat gs).length ≤ 4096) : okL (flat gs) := by
  refine ⟨by omega, fun e he => ?_⟩
  obtain ⟨g, hg, h1⟩ := List.mem_flatMap.1 he
  obtain ⟨j, _, rfl⟩ := List.mem_map.1 h1
  exact h g hg

theorem XG {l : List aC} (hl : okL l) : okL (iZ l).1 := by
  by_cases h : (iZ l).2 = 0
  · obtain ⟨_, _, _, h4, h5⟩ := CR h
    rw [h4] at h5 ⊢
    refine ZB (fun g hg => ?_) h5
    obtain ⟨q, hq, rfl⟩ := List.mem_map.1 hg
    obtain ⟨r, hr, rfl⟩ := List.mem_map.1 hq
    obtain ⟨e, he, rfl⟩ := rE.1 hr
    exact hl.2 e he
  · rw [VK h]; exact LM

end Go.Abs
namespace Go.Abs
open Go
theorem GZ {σ : Type} {y : σ → List aF → List aB → Option (σ × Bool)} (c : List aC) : ∀ (gs : List (List aF × List aB)) (s s' : σ), itG y gs s = some s' →
    ∃ x, itG (fun st t10 t11 => rnd (fun (s : σ) => jF y c s t10 t11) st) gs (.inl s) = some x ∧ Sum.elim id id x = s'
  | [], s, s', h => by simp only [itG, Option.some.injEq] at h; exact ⟨_, rfl, h⟩
  | g :: gs, s, s', h => by
    simp only [itG] at h
    obtain ⟨z, hz, h⟩ := aW h
    have hl : jF y c s g.1 g.2 = some (if z.2 then .inl z.1 else .inr z.1) := by
      unfold jF
      rw [hz]
      obtain ⟨z1, z2⟩ := z
      cases z2 <;> rfl
    cases h2 : z.2
    · rw [h2] at h hl
      simp only [Bool.false_eq_true, if_false, Option.some.injEq] at h hl
      refine ⟨.inr z.1, ?_, h⟩
      simp [itG, rnd, hl]
    · rw [h2] at h hl
      simp only [if_true] at h hl
      obtain ⟨x, h3, h4⟩ := GZ c gs z.1 s' h
      refine ⟨x, ?_, h4⟩
      simp only [itG, rnd, hl, Option.bind_some, Sum.isLeft_inl, if_true]
      exact h3

theorem IS {σ : Type} {y : σ → List aF → List aB → Option (σ × Bool)} {l : List aC} (hl : okL l) {s s' : σ} (h : itG y (if qA l then groups l else []) s = some s') : mH y l s = some s' := by
  unfold mH
  rw [TJ hl]
  cases hm : qA l
  · rw [hm] at h
    simp only [Bool.false_eq_true, if_false, itG] at h
    simpa using h
  · rw [hm] at h
    simp only [if_true] at h
    simp only [Option.bind_some, Bool.not_true, cond_false, oG, pQ]
    obtain ⟨x, h1, h2⟩ := GZ l (groups l) s s' h
    rw [LG hl h1]
    cases x <;> simpa using h2

theorem YN {l a : List aC} (hu : l.any unE = false) (ho : l.any AD = false) (ma : qA a = true) (h : ∀ r, jC (cA l r) = (cA a r, 0)) : iZ l = (a, 0) := by
  obtain ⟨h1, _, h3⟩ := oZ ma
  have hs := IK (by1 := jC) (IM l)
  have hf : flat (uI jC (pZ l)) = a := by
    rw [← wA]
    conv => rhs; rw [← uO a]
    rw [TH (gs := BH (uI jC (pZ l))) (hs := groups a) (hs.filter _) h3 (MR _) (RP a) fun r => ?_]
    have h4 := qK (gs := BH (uI jC (pZ l))) (hs.filter _) r
    rw [← h4, wA, qK hs, FJ (by rw [LZ]), AP, h r, mC h3]
  unfold iZ
  rw [if_neg (by simp [hu]), if_neg (by simp [ho]), QN (fun g hg => ?_) (by simpa [hf] using h1), hf]
  · rfl
  · obtain ⟨r, _, rfl⟩ := List.mem_map.1 hg
    simp only
    rw [h r]

theorem TV {l : List aC} (hm : qA l = true) {e : aC} (he : e ∈ l) : nQ e.Row = true ∧ -2 < e.At ∧ e.At < 1125899906842624 ∧ e.Net ≠ 0 ∧ e.Net ≤ 1048576 ∧ -1048576 ≤ e.Net := by
  obtain ⟨_, h2, _⟩ := oZ hm
  have he' : e ∈ flat (groups l) := by rw [uO]; exact he
  obtain ⟨g, hg, h1⟩ := List.mem_flatMap.1 he'
  obtain ⟨j, hj, rfl⟩ := List.mem_map.1 h1
  obtain ⟨a, b⟩ := h2 g hg
  exact ⟨a, (mI.1 b).2.above j hj⟩

theorem KA {l : List aC} (hm : qA l = true) (r : List aF) : iK (cA l r) = true := by
  rw [← mC (oZ hm).2.2]; exact WI hm r

theorem ZA {f h : List aB} (h1 : f.any rZ = false) (h2 : f.any xG = false) (hh : iK h = true) (hv : ∀ t, -2 < t → t < 1125899906842624 → val h t = val f t) : jC f = (h, 0) := by
  unfold jC
  rw [if_neg (by simp [h1]), if_neg (by simp [h2]), IA (fun j hj => (xK h2 j hj).1) (aBc hh) hv]
  unfold told
  rw [if_pos hh]

end Go.Abs
namespace Go.Abs
open Go
theorem NK {l : List aC} (h1 : l.any unE = false) (h2 : l.any AD = false) (r : List aF) : (cA l r).any rZ = false ∧ (cA l r).any xG = false := by
  constructor
  · refine List.any_eq_false.2 fun j hj => ?_
    obtain ⟨e, he, rfl⟩ := List.mem_map.1 hj
    have := LA h1 e (List.mem_filter.1 he).1
    have h3 : (jE e).Net = e.Net := rfl
    simp only [rZ, DN, h3, Bool.not_eq_true', Bool.and_eq_false_iff, decide_eq_false_iff_not, not_or, Decidable.not_not, Bool.not_eq_false, Bool.and_eq_true, decide_eq_true_eq]
    omega
  · refine List.any_eq_false.2 fun j hj => ?_
    obtain ⟨e, he, rfl⟩ := List.mem_map.1 hj
    have := List.any_eq_false.1 h2 e (List.mem_filter.1 he).1
    have h3 : (jE e).At = e.At := rfl
    simp only [AD, Bool.or_eq_true, decide_eq_true_eq, not_or] at this
    simp only [xG, h3, Bool.or_eq_true, decide_eq_true_eq]
    omega

end Go.Abs
namespace Go.Abs
open Go
abbrev ltE (x y : aC) : Prop := iY x.Row y.Row < 0 ∨ (x.Row = y.Row ∧ x.At < y.At)

theorem BA : ∀ {f : List aB} {last : Int}, sN last f ↔ (∀ j ∈ f, CN last j = false) ∧ f.Pairwise fun a b => a.At < b.At
  | [], last => by simp [sN]
  | j :: f, last => by
    rw [List.pairwise_cons]
    unfold sN
    rw [← nY]
    constructor
    · rintro ⟨h1, h2⟩
      have h3 := BA.1 h2
      have h4 := nY.1 h1
      refine ⟨fun k hk => ?_, fun k hk => (nY.1 (h3.1 k hk)).1, h3.2⟩
      rcases List.mem_cons.1 hk with rfl | hk
      · exact h1
      · have := nY.1 (h3.1 k hk)
        exact nY.2 (by omega)
    · rintro ⟨h1, h2, h3⟩
      refine ⟨h1 j (by simp), BA.2 ⟨fun k hk => ?_, h3⟩⟩
      have := nY.1 (h1 k (by simp [hk]))
      have := h2 k hk
      exact nY.2 (by omega)

theorem ZC {l : List aC} : qA l = true ↔ l.length ≤ 4096 ∧ (∀ e ∈ l, nQ e.Row = true ∧ CN (-2) (jE e) = false) ∧ l.Pairwise ltE ∧ ∀ r ∈ rowsOf l, (cA l r).length ≤ 1024 := by
  constructor
  · intro h
    obtain ⟨h1, h2, h3⟩ := oZ h
    refine ⟨h1, fun e he => ?_, ?_, fun r _ => (mI.1 (KA h r)).1⟩
    · obtain ⟨a, b, c, d, e1, e2⟩ := TV h he
      exact ⟨a, nY.2 ⟨b, c, d, e1, e2⟩⟩
    · rw [← uO l]
      unfold flat
      rw [List.flatMap, List.pairwise_flatten, List.pairwise_map]
      constructor
      · intro x hx
        obtain ⟨g, hg, rfl⟩ := List.mem_map.1 hx
        have := (BA.1 (mI.1 (h2 g hg).2).2).2
        rw [iB, List.pairwise_map]
        exact this.imp fun h => .inr ⟨rfl, h⟩
      · refine h3.imp fun {a b} h x hx y hy => ?_
        obtain ⟨j, _, rfl⟩ := List.mem_map.1 hx
        obtain ⟨k, _, rfl⟩ := List.mem_map.1 hy
        exact .inl h
  · rintro ⟨h1, h2, h3, h4⟩
    have hs : Srt leE l := h3.imp fun h => by
      rcases h with h | ⟨h, h'⟩
      · exact .inl h
      · exact .inr ⟨h, by omega⟩
    have hg := rA hs
    unfold qA
    rw [Bool.and_eq_true]
    refine ⟨by simpa using h1, tD.2 ⟨fun g hg' => ?_, hg, fun q hq => by cases hq⟩⟩
    obtain ⟨_, e, he, h5⟩ := zD hg'
    have hj : g.2 = cA l g.1 := by rw [← mC hg, tL hg hg']
    refine ⟨by rw [h5]; exact (h2 e he).1, ?_⟩
    rw [hj]
    refine mI.2 ⟨h4 _ (rE.2 ⟨e, he, h5.symm⟩), BA.2 ⟨fun j hj => ?_, ?_⟩⟩
    · obtain ⟨e, he, rfl⟩ := List.mem_map.1 hj
      exact (h2 e (List.mem_filter.1 he).1).2
    · unfold cA
      rw [List.pairwise_map, List.pairwise_filter]
      refine h3.imp fun {a b} h ha hb => ?_
      rcases h with h | ⟨_, h⟩
      · simp only [decide_eq_true_eq] at ha hb
        rw [ha, hb] at h
        exact absurd h mA
      · exact h

end Go.Abs
namespace Go.Abs
open Go
theorem TQ {c : Int} : ∀ {l : List Int} {m : Int}, c ≤ l.foldl mn m ↔ c ≤ m ∧ ∀ x ∈ l, c ≤ x
  | [], m => by simp
  | a :: l, m => by
    rw [List.foldl_cons, TQ]
    unfold mn
    constructor
    · rintro ⟨h1, h2⟩
      have h3 : c ≤ m ∧ c ≤ a := by split at h1 <;> omega
      refine ⟨h3.1, fun x hx => ?_⟩
      rcases List.mem_cons.1 hx with rfl | hx
      · exact h3.2
      · exact h2 x hx
    · rintro ⟨h1, h2⟩
      have := h2 a (by simp)
      exact ⟨by split <;> omega, fun x hx => h2 x (by simp [hx])⟩

theorem MD {t : Int} : ∀ {f : List aB} {l v : Int}, sN l f → v + val f t = v ∨ v + val f t ∈ parts v f
  | [], l, v, _ => .inl (by simp [val])
  | j :: r, l, v, h => by
    unfold parts
    rw [cG]
    by_cases e : j.At ≤ t
    · rw [if_pos e]
      right
      rcases MD (t := t) (v := v + j.Net) h.2 with h1 | h1
      · rw [show v + (j.Net + val r t) = v + j.Net by omega]; simp
      · rw [show v + (j.Net + val r t) = v + j.Net + val r t by omega]; exact List.mem_cons_of_mem _ h1
    · left
      rw [if_neg e, h.2.tM (by omega)]; omega

theorem MS {f : List aB} (hf : iK f = true) : 0 ≤ BM f ↔ ∀ t, 0 ≤ val f t := by
  have hr := (mI.1 hf).2
  unfold BM
  rw [TQ]
  constructor
  · rintro ⟨_, h2⟩ t
    rcases MD (t := t) (v := 0) hr with h | h
    · omega
    · rw [parts_eq hr] at h
      obtain ⟨j, hj, h⟩ := List.mem_map.1 h
      have := h2 _ (List.mem_map.2 ⟨j, hj, rfl⟩)
      omega
  · intro h
    refine ⟨h _, fun x hx => ?_⟩
    obtain ⟨j, _, rfl⟩ := List.mem_map.1 hx
    exact h _

theorem tY {l : List aC} : rG l = true ↔ qA l = true ∧ ∀ r t, 0 ≤ val (cA l r) t := by
  constructor
  · intro h
    unfold rG at h
    rw [Bool.and_eq_true, tD] at h
    obtain ⟨h1, h2, h3, _⟩ := h
    have hm : qA l = true := by
      unfold qA
      rw [Bool.and_eq_true]
      exact ⟨h1, tD.2 ⟨fun g hg => ⟨(h2 g hg).1, by have := (h2 g hg).2; unfold LK at this; rw [Bool.and_eq_true] at this; exact this.1⟩, h3, fun q hq => by cases hq⟩⟩
    refine ⟨hm, fun r => ?_⟩
    rw [← mC h3]
    rcases zA (groups l) r with ⟨e, _⟩ | ⟨g, hg, _, e⟩
    · rw [e]; intro t; simp [val]
    · rw [e]
      have := (h2 g hg).2
      unfold LK at this
      rw [Bool.and_eq_true, decide_eq_true_eq] at this
      exact (MS this.1).1 this.2
  · rintro ⟨hm, h⟩
    obtain ⟨h1, h2, h3⟩ := oZ hm
    unfold rG
    rw [Bool.and_eq_true]
    refine ⟨by simpa using h1, tD.2 ⟨fun g hg => ⟨(h2 g hg).1, ?_⟩, h3, fun q hq => by cases hq⟩⟩
    unfold LK
    rw [Bool.and_eq_true, decide_eq_true_eq]
    refine ⟨(h2 g hg).2, (MS (h2 g hg).2).2 ?_⟩
    have : g.2 = cA l g.1 := by rw [← mC h3, tL h3 hg]
    rw [this]; exact h g.1

theorem XJ {f : List aB} (hu : Up (-2) f) (h : ∀ t, -2 < t → t < 1125899906842624 → 0 ≤ val f t) : ∀ t, 0 ≤ val f t := by
  intro t
  by_cases h1 : -2 < t
  · by_cases h2 : t < 1125899906842624
    · exact h t h1 h2
    · have := BB (s := 1125899906842623) (t := t) (by omega) (f := f) (fun j hj => by have := (hu.above j hj); omega)
      rw [← this]; exact h _ (by omega) (by omega)
  · rw [hu.tM (by omega)]; omega

theorem HF {l : List aC} (h : (iZ l).2 = 0) (r : List aF) : cA (iZ l).1 r = vL (cA l r) := by
  rw [← mC (oZ (MO h)).2.2, VG h, (HX (MB h r)).2.2.2]

theorem zV {l : List aC} (h : (iZ l).2 = 0) (r : List aF) : ∀ j ∈ cA l r, -2 < j.At :=
  fun j hj => (xK (HX (MB h r)).2.1 j hj).1

theorem RQ {l : List aC} (h : (iZ l).2 = 0) (hv : ∀ r t, -2 < t → t < 1125899906842624 → 0 ≤ val (cA l r) t) : rG (iZ l).1 = true := by
  refine tY.2 ⟨MO h, fun r => ?_⟩
  rw [HF h]
  refine XJ (CP (zV h r)) fun t h1 h2 => ?_
  rw [FQ (zV h r) h1 h2]; exact hv r t h1 h2

end Go.Abs
namespace Go.Abs
open Go
theorem RZ {l : List aC} (hm : qA l = true) : pZ l = groups l := by
  obtain ⟨_, _, hp, _⟩ := ZC.1 hm
  have hs : Srt leE l := hp.imp fun h => by
    rcases h with h | ⟨h, h'⟩
    · exact .inl h
    · exact .inr ⟨h, by omega⟩
  have hg := rA hs
  unfold pZ
  rw [← HA (List.Perm.refl l) hs, List.map_map]
  conv => rhs; rw [← List.map_id (groups l)]
  refine List.map_congr_left fun g hg' => ?_
  simp only [Function.comp, id]
  rw [← mC hg, tL hg hg']

end Go.Abs
namespace Go.Abs
open Go
def nS (f : List aB) : List Int := f.flatMap fun j => List.replicate j.Net.toNat j.At

def ends (f : List aB) : List Int := f.flatMap fun j => List.replicate (-j.Net).toNat j.At

def eK (f : List aB) : Int := (f.map fun j => if 0 < j.Net then j.Net else 0).sum

def pairs (d : Int) : List Int → List Int → List aS
  | [], _ => []
  | b :: bs, [] => ⟨b, d⟩ :: pairs d bs []
  | b :: bs, e :: es => ⟨b, e⟩ :: pairs d bs es

theorem nF (j : aB) (f : List aB) : nS (j :: f) = List.replicate j.Net.toNat j.At ++ nS f := rfl

theorem yL (j : aB) (f : List aB) : ends (j :: f) = List.replicate (-j.Net).toNat j.At ++ ends f := rfl

theorem nZ (j : aB) (f : List aB) : eK (j :: f) = (if 0 < j.Net then j.Net else 0) + eK f := by simp [eK]

theorem QX (f g : List aB) : eK (f ++ g) = eK f + eK g := by simp [eK]

theorem oT : ∀ f : List aB, 0 ≤ eK f
  | [] => by simp [eK]
  | j :: f => by rw [nZ]; have := oT f; split <;> omega

theorem AA : ∀ f : List aB, eK f = ((nS f).length : Nat)
  | [] => rfl
  | j :: f => by
    rw [nZ, nF, List.length_append, List.length_replicate, AA f]
    split <;> omega

theorem sS (d : Int) : ∀ (B E : List Int), (pairs d B E).length = B.length
  | [], _ => rfl
  | _ :: bs, [] => by simp [pairs, sS d bs []]
  | _ :: bs, _ :: es => by simp [pairs, sS d bs es]

theorem CS (d t : Int) : ∀ (B E : List Int), E.length ≤ B.length → pairs d (B ++ [t]) E = pairs d B E ++ [⟨t, d⟩]
  | [], [], _ => rfl
  | [], _ :: _, h => by simp at h
  | b :: bs, [], _ => by simp only [List.cons_append, pairs, CS d t bs [] (by simp)]
  | b :: bs, e :: es, h => by simp only [List.cons_append, pairs, CS d t bs es (by simpa using h)]

theorem MQ (d t : Int) : ∀ (B E : List Int), E.length < B.length → (pairs d B E).set E.length ⟨((pairs d B E).getD E.length default).From, t⟩ = pairs d B (E ++ [t])
  | [], _, h => by simp at h
  | b :: bs, [], _ => by simp [pairs]
  | b :: bs, e :: es, h => by
    have := MQ d t bs es (by simpa using h)
    simp only [pairs, List.length_cons, List.set_cons_succ, List.cons_append, List.getD_cons_succ]
    rw [this]

theorem KG (d d' : Int) : ∀ (B E : List Int), B.length ≤ E.length → pairs d B E = pairs d' B E
  | [], _, _ => rfl
  | _ :: _, [], h => by simp at h
  | b :: bs, e :: es, h => by simp only [pairs, KG d d' bs es (by simpa using h)]

theorem yY (d d' : Int) : ∀ (B E : List Int), pairs d' B E = pairs d B (E ++ List.replicate (B.length - E.length) d')
  | [], E => by simp [pairs]
  | b :: bs, [] => by
    have := yY d d' bs []
    simp only [List.nil_append, List.length_nil, Nat.sub_zero, List.length_cons, List.replicate_succ, pairs] at this ⊢
    rw [this]
  | b :: bs, e :: es => by
    have := yY d d' bs es
    simp only [List.cons_append, List.length_cons, Nat.add_sub_add_right, pairs]
    rw [this]

def xO (v : Int) : List aB → Prop
  | [] => True
  | j :: r => 0 ≤ v + j.Net ∧ xO (v + j.Net) r

theorem GW : ∀ {f : List aB} {v : Int}, (∀ x ∈ parts v f, 0 ≤ x) → xO v f
  | [], _, _ => trivial
  | j :: r, v, h => ⟨h _ (by simp [parts]), GW fun x hx => h x (by simp [parts, hx])⟩

theorem FK {f : List aB} (hf : iK f = true) (h : ∀ t, 0 ≤ val f t) : xO 0 f := by
  refine GW fun x hx => ?_
  rw [parts_eq (mI.1 hf).2] at hx
  obtain ⟨j, _, rfl⟩ := List.mem_map.1 hx
  have := h j.At
  omega

theorem aAv {f : List aB} (hf : ∀ j ∈ f, j.Net ≤ 1048576 ∧ -1048576 ≤ j.Net) (hl : f.length ≤ 1099511627776) : pX f = some (eK f) := by
  unfold pX xC
  rw [zL (l := f) (body := fun s : Int × Int => nJ f (f.length : Nat) s.1 s.2) (fun v i => (v, i)) (fun v r => v + eK r)
    (fun v r => (∀ j ∈ r, j.Net ≤ 1048576 ∧ -1048576 ≤ j.Net) ∧ 0 ≤ v ∧ v ≤ 1048576 * (1099511627776 - r.length) ∧ r.length ≤ 1099511627776) 0 ?_ ?_ ⟨hf, by omega, by omega, hl⟩]
  · simp [tK]
  · rintro i a r v ha ⟨h1, h2, h3, h4⟩
    have hlt := (List.getElem?_eq_some_iff.1 ha).1
    obtain ⟨d1, d2, d3, d4⟩ := idx ha (by omega)
    have hj := h1 a (List.mem_cons_self ..)
    simp only [List.length_cons] at h3 h4
    have hif : (if (0 : Int) > a.Net then 0 else a.Net) = (if 0 < a.Net then a.Net else 0) := by split <;> split <;> omega
    have hb : 0 ≤ (if 0 < a.Net then a.Net else 0) ∧ (if 0 < a.Net then a.Net else 0) ≤ 1048576 := by split <;> omega
    have hw : IntKind.i64.wrap (v + (if 0 < a.Net then a.Net else 0)) = v + (if 0 < a.Net then a.Net else 0) := gM (by omega) (by omega)
    left
    refine ⟨v + (if 0 < a.Net then a.Net else 0), ?_, ⟨fun j hj => h1 j (List.mem_cons_of_mem _ hj), by omega, by omega, by omega⟩, by rw [nZ]; omega⟩
    show nJ _ _ _ _ = _
    simp only [nJ, d1, cond_true, bG d2, d3, d4, hif, hw]
  · rintro v _
    show nJ _ _ _ _ = _
    simp only [nJ, lO, cond_false]
    simp [eK]

theorem SY {f : List aB} (hf : iK f = true) : pX f = some (eK f) := aAv (DK hf) (by have := (mI.1 hf).1; omega)

theorem RW {f : List aB} (hf : ∀ j ∈ f, j.Net ≤ 1048576) : eK f ≤ 1048576 * f.length := by
  induction f with
  | nil => simp [eK]
  | cons j f ih =>
    rw [nZ, List.length_cons]
    have := ih fun k hk => hf k (by simp [hk])
    have := hf j (by simp)
    split <;> omega

theorem XO {B E : List Int} {t : Int} (h : E.length < B.length) (hB : B.length ≤ 1000000) : lP t (pairs 0 B E) (E.length : Nat) = some (pairs 0 B (E ++ [t]), ((E.length + 1 : Nat) : Int)) := by
  unfold lP
  rw [bG ⟨by omega, by rw [sS]; omega⟩, Int.toNat_natCast, MQ 0 t B E h, gM (by omega) (by omega)]
  rfl

theorem OM {f : List aB} {i : Int} {j : aB} {E : List Int} (t13 : Int) (hN : j.Net ≤ 4294967296) : ∀ (n : Nat) (k : Nat) (B : List Int), E.length ≤ B.length → j.Net.toNat = k + n → B.length + n ≤ 1000000 →
    lp (fun s : List aS × Int × aB × Int => lB f t13 i j.Net s.1 s.2.1 s.2.2.1 s.2.2.2) (pairs 0 B E, ((E.length : Nat) : Int), j, (k : Int)) = some (pairs 0 (B ++ List.replicate n j.At) E, ((E.length : Nat) : Int), j)
  | 0, k, B, _, hk, _ => by
    refine cR ?_
    show lB _ _ _ _ _ _ _ _ = _
    have : decide ((k : Int) < j.Net) = false := by simp; omega
    simp only [lB, this, cond_false, List.replicate_zero, List.append_nil]
  | n + 1, k, B, hE, hk, hB => by
    have h1 : decide ((k : Int) < j.Net) = true := by simp; omega
    have hb : (fun s : List aS × Int × aB × Int => lB f t13 i j.Net s.1 s.2.1 s.2.2.1 s.2.2.2) (pairs 0 B E, ((E.length : Nat) : Int), j, (k : Int)) = some (.inl (pairs 0 (B ++ [j.At]) E, ((E.length : Nat) : Int), j, ((k + 1 : Nat) : Int))) := by
      show lB _ _ _ _ _ _ _ _ = _
      simp only [lB, h1, cond_true]
      rw [bG (by rw [sS]; simp only [List.length_cons, List.length_nil]; omega), CS 0 j.At B E hE, gM (by omega) (by omega)]
      rfl
    rw [eG hb, OM t13 hN n (k + 1) (B ++ [j.At]) (by simp; omega) (by omega) (by simp; omega), List.append_assoc, List.replicate_succ]
    rfl

theorem VS {f : List aB} {i : Int} {j : aB} {B : List Int} (t13 : Int) (hB : B.length ≤ 1000000) (hN : -4294967296 ≤ j.Net) : ∀ (n : Nat) (k : Nat) (E : List Int), (-j.Net).toNat = k + n → E.length + n ≤ B.length →
    lp (fun s : List aS × Int × aB × Int => lE f t13 i (-j.Net) s.1 s.2.1 s.2.2.1 s.2.2.2) (pairs 0 B E, ((E.length : Nat) : Int), j, (k : Int)) = some (pairs 0 B (E ++ List.replicate n j.At), ((E.length + n : Nat) : Int))
  | 0, k, E, hk, _ => by
    refine cR ?_
    show lE _ _ _ _ _ _ _ _ = _
    have : decide ((k : Int) < -j.Net) = false := by simp; omega
    simp only [lE, this, cond_false, List.replicate_zero, List.append_nil, Nat.add_zero]
  | n + 1, k, E, hk, hE => by
    have h1 : decide ((k : Int) < -j.Net) = true := by simp; omega
    have hb : (fun s : List aS × Int × aB × Int => lE f t13 i (-j.Net) s.1 s.2.1 s.2.2.1 s.2.2.2) (pairs 0 B E, ((E.length : Nat) : Int), j, (k : Int)) = some (.inl (pairs 0 B (E ++ [j.At]), (((E ++ [j.At]).length : Nat) : Int), j, ((k + 1 : Nat) : Int))) := by
      show lE _ _ _ _ _ _ _ _ = _
      simp only [lE, h1, cond_true, XO (show E.length < B.length by omega) hB, Option.bind_some]
      rw [gM (by omega) (by omega)]
      simp
    rw [eG hb, VS t13 hB hN n (k + 1) (E ++ [j.At]) (by omega) (by simp; omega), List.append_assoc, List.replicate_succ]
    have : (E ++ [j.At]).length + n = E.length + (n + 1) := by simp; omega
    rw [this]
    rfl

theorem TP {B : List Int} (hB : B.length ≤ 1000000) : ∀ (n : Nat) (E : List Int), E.length + n = B.length →
    lp (fun s : List aS × Int => lF s.1 s.2) (pairs 0 B E, ((E.length : Nat) : Int)) = some (pairs 1125899906842624 B E)
  | 0, E, h => by
    refine cR ?_
    show lF _ _ = _
    have : decide (((E.length : Nat) : Int) < (((pairs 0 B E).length : Nat) : Int)) = false := by simp [sS]; omega
    simp only [lF, this, cond_false]
    rw [KG 0 1125899906842624 B E (by omega)]
  | n + 1, E, h => by
    have h1 : decide (((E.length : Nat) : Int) < (((pairs 0 B E).length : Nat) : Int)) = true := by simp [sS]; omega
    have hb : (fun s : List aS × Int => lF s.1 s.2) (pairs 0 B E, ((E.length : Nat) : Int)) = some (.inl (pairs 0 B (E ++ [1125899906842624]), (((E ++ [1125899906842624]).length : Nat) : Int))) := by
      show lF _ _ = _
      simp only [lF, h1, cond_true, XO (show E.length < B.length by omega) hB, Option.bind_some]
      simp
    rw [eG hb, TP hB n (E ++ [1125899906842624]) (by simp; omega)]
    rw [yY 1125899906842624 1125899906842624 B E, yY 1125899906842624 1125899906842624 B (E ++ [1125899906842624])]
    have : B.length - E.length = B.length - (E ++ [(1125899906842624 : Int)]).length + 1 := by simp; omega
    rw [this, List.replicate_succ, List.append_assoc]
    rfl

def rK (f : List aB) : List aS := pairs 1125899906842624 (nS f) (ends f)

theorem DA : ∀ {f : List aB} {v : Int}, xO v f → ((ends f).length : Int) ≤ v + (nS f).length ∨ f = []
  | [], _, _ => .inr rfl
  | j :: r, v, h => by
    left
    rw [yL, nF, List.length_append, List.length_append, List.length_replicate, List.length_replicate]
    rcases DA h.2 with h1 | h1
    · omega
    · subst h1
      have := h.1
      simp [nS, ends]
      omega

theorem ZP {f : List aB} (hf : iK f = true) (hn : ∀ t, 0 ≤ val f t) (hm : eK f ≤ 1000000) : sV f = some (rK f) := by
  have hok := FK hf hn
  have hlen := (mI.1 hf).1
  have hb0 := AA f
  unfold sV
  rw [SY hf]
  simp only [Option.bind_some]
  have h0 := oT f
  rw [bG ⟨h0, by omega, by omega⟩]
  unfold vJ
  have key := zL (l := f) (body := fun s : List aS × Int × Int => mK f (f.length : Nat) s.1 s.2.1 s.2.2) (fun (s : List Int × List Int) i => (pairs 0 s.1 s.2, ((s.2.length : Nat) : Int), i)) (fun s r => (pairs 0 (s.1 ++ nS r) (s.2 ++ ends r), (((s.2 ++ ends r).length : Nat) : Int)))
    (fun s r => s.2.length ≤ s.1.length ∧ xO ((s.1.length : Int) - s.2.length) r ∧ s.1.length + (nS r).length ≤ 1000000 ∧ ∀ j ∈ r, j.Net ≤ 1048576 ∧ -1048576 ≤ j.Net) ([], []) ?_ ?_ ⟨by simp, by simpa using hok, by simp; omega, DK hf⟩
  · simp only [pairs, List.length_nil, Int.natCast_zero, List.nil_append] at key
    rw [key]
    simp only [Option.bind_some, rS, vP]
    have he : (ends f).length ≤ (nS f).length := by
      rcases DA hok with h | h
      · omega
      · subst h; simp [ends]
    rw [TP (by omega) ((nS f).length - (ends f).length) (ends f) (by omega)]
    rfl
  · rintro i j r ⟨B, E⟩ ha ⟨h1, h2, h3, h4⟩
    left
    simp only at h1 h2 h3
    obtain ⟨d1, d2, d3, d4⟩ := idx ha (by omega)
    have hj := h4 j (by simp)
    have hv := h2.1
    rw [nF, List.length_append, List.length_replicate] at h3
    have hw : IntKind.i64.wrap (0 - j.Net) = -j.Net := by rw [gM (by omega) (by omega)]; omega
    refine ⟨(B ++ List.replicate j.Net.toNat j.At, E ++ List.replicate (-j.Net).toNat j.At), ?_, ⟨by simp; omega, ?_, by simp; omega, fun k hk => h4 k (by simp [hk])⟩, ?_⟩
    · show mK _ _ _ _ _ = _
      simp only [mK, d1, cond_true, bG d2, d3, vR]
      have b1 := OM (f := f) (i := (i : Int)) (j := j) (E := E) (f.length : Nat) (by omega) j.Net.toNat 0 B h1 (by omega) (by omega)
      have e1 := VS (f := f) (i := (i : Int)) (j := j) (B := B ++ List.replicate j.Net.toNat j.At) (f.length : Nat) (by simp; omega) (by omega) (-j.Net).toNat 0 E (by omega) (by simp; omega)
      simp only [Int.natCast_zero] at b1 e1
      rw [b1]
      simp only [Option.bind_some, sC, hw, vS]
      rw [e1]
      simp only [Option.bind_some, rO, d4]
      simp
    · have : (((B ++ List.replicate j.Net.toNat j.At).length : Nat) : Int) - (((E ++ List.replicate (-j.Net).toNat j.At).length : Nat) : Int) = (B.length : Int) - E.length + j.Net := by simp; omega
      simp only
      rw [this]; exact h2.2
    · simp only [nF, yL, List.append_assoc]
  · rintro ⟨B, E⟩ _
    show mK _ _ _ _ _ = _
    simp only [mK, lO, cond_false]
    simp [nS, ends]

end Go.Abs
namespace Go.Abs
open Go
def wS (r : List aF) (ss : List aS) : List aM := ss.map fun s => ⟨r, s⟩

def sR (gs : List (List aF × List aB)) : List aM := gs.flatMap fun g => wS g.1 (rK g.2)

def pR (gs : List (List aF × List aB)) : Int := (gs.map fun g => eK g.2).sum

theorem CO (g : List aF × List aB) (gs : List (List aF × List aB)) : sR (g :: gs) = wS g.1 (rK g.2) ++ sR gs := rfl

theorem yX (g : List aF × List aB) (gs : List (List aF × List aB)) : pR (g :: gs) = eK g.2 + pR gs := by simp [pR]

theorem AF : ∀ gs : List (List aF × List aB), 0 ≤ pR gs
  | [] => by simp [pR]
  | g :: gs => by rw [yX]; have := AF gs; have := oT g.2; omega

theorem KF (f : List aB) : ((rK f).length : Int) = eK f := by rw [rK, sS, AA]

theorem FV : ∀ gs : List (List aF × List aB), ((sR gs).length : Int) = pR gs
  | [] => rfl
  | g :: gs => by
    rw [CO, yX, List.length_append, ← FV gs, ← KF]
    simp [wS]

def GA (l : List aC) : List aM × Int := if !qA l then ([], 2) else if !rG l then ([], 20) else if decide (4096 < pR (groups l)) then ([], 7) else (sR (groups l), 0)

theorem OU (l0 c : List aC) : ∀ (gs : List (List aF × List aB)) (n : Int), (∀ g ∈ gs, iK g.2 = true) → 0 ≤ n → n + 1073741824 * gs.length ≤ 4611686018427387904 →
    itG (fun st t22 t23 => rnd (fun (s : Int) => mZ l0 c s t22 t23) st) gs (.inl n) = some (.inl (n + pR gs))
  | [], n, _, _, _ => by simp [itG, pR]
  | g :: gs, n, hg, hn, hb => by
    have hm := hg g (by simp)
    have h0 := oT g.2
    have h1 := RW (f := g.2) fun j hj => (DK hm j hj).1
    have h2 := (mI.1 hm).1
    simp only [List.length_cons] at hb
    have hw : IntKind.i64.wrap (n + eK g.2) = n + eK g.2 := gM (by omega) (by omega)
    have hl : mZ l0 c n g.1 g.2 = some (.inl (n + eK g.2)) := by
      unfold mZ
      rw [SY hm]
      simp only [Option.bind_some, hw]
    simp only [itG, rnd, hl, Option.bind_some, Sum.isLeft_inl, if_true]
    have := OU l0 c gs (n + eK g.2) (fun q hq => hg q (by simp [hq])) (by omega) (by omega)
    simp only [rnd] at this
    rw [this, yX, Int.add_assoc]

theorem aAW {r : List aF} (hr : r.length ≤ 4398046510976) (ss : List aS) (out : List aM) (h : out.length + ss.length ≤ 1000000) : qH out r ss ((ss.length : Nat) : Int) 0 = some (.inl (out ++ wS r ss)) := by
  unfold qH
  rw [zL (l := ss) (body := fun s : List aM × Int => lM r ss (ss.length : Nat) s.1 s.2) (fun o i => (o, i)) (fun o t => o ++ wS r t) (fun o t => o.length + t.length ≤ 1000000) out ?_ ?_ h]
  · rfl
  · intro i a t o ha hi
    left
    obtain ⟨d1, d2, d3, d4⟩ := idx ha (by omega)
    simp only [List.length_cons] at hi
    refine ⟨o ++ [⟨r, a⟩], ?_, by simp; omega, by simp [wS]⟩
    show lM _ _ _ _ _ = _
    simp only [lM, d1, cond_true, bG d2, d3, d4, CW hr, Option.bind_some]
    exact bG (by simp only [List.length_cons, List.length_nil]; omega)
  · intro o _
    show lM _ _ _ _ _ = _
    simp only [lM, lO, cond_false]
    simp [wS]

theorem MC (c : List aC) : ∀ (gs : List (List aF × List aB)) (out : List aM), (∀ g ∈ gs, iK g.2 = true ∧ (∀ t, 0 ≤ val g.2 t) ∧ g.1.length ≤ 4398046510976) → out.length + pR gs ≤ 1000000 →
    itG (fun st t34 t35 => rnd (fun (s : List aM) => mV c s t34 t35) st) gs (.inl out) = some (.inl (out ++ sR gs))
  | [], out, _, _ => by simp [itG, sR]
  | g :: gs, out, hg, hb => by
    obtain ⟨hm, hn, hr⟩ := hg g (by simp)
    have h0 := oT g.2
    have h1 := AF gs
    rw [yX] at hb
    have hs := KF g.2
    have hl : mV c out g.1 g.2 = some (.inl (out ++ wS g.1 (rK g.2))) := by
      unfold mV
      rw [ZP hm hn (by omega)]
      simp only [Option.bind_some]
      rw [aAW hr _ _ (by omega)]
    simp only [itG, rnd, hl, Option.bind_some, Sum.isLeft_inl, if_true]
    have := MC c gs (out ++ wS g.1 (rK g.2)) (fun q hq => hg q (by simp [hq])) (by simp only [List.length_append, wS, List.length_map]; omega)
    simp only [rnd] at this
    rw [this, CO, List.append_assoc]

theorem yT : ∀ (l : List aC) (r : List aF) (f : List aB), (gA r f l).length ≤ l.length + 1
  | [], _, _ => by simp [gA]
  | e :: l, r, f => by
    rw [LD]
    split
    · have := yT l r (f ++ [jE e]); simp only [List.length_cons]; omega
    · have := yT l e.Row [jE e]; simp only [List.length_cons]; omega

theorem US (l : List aC) : (groups l).length ≤ l.length := by
  cases l with
  | nil => simp [groups]
  | cons e l => exact yT l e.Row [jE e]

theorem qM {l : List aC} (ht : rG l = true) {g : List aF × List aB} (hg : g ∈ groups l) : iK g.2 = true ∧ ∀ t, 0 ≤ val g.2 t := by
  obtain ⟨hm, hv⟩ := tY.1 ht
  obtain ⟨_, h2, h3⟩ := oZ hm
  have : g.2 = cA l g.1 := by rw [← mC h3, tL h3 hg]
  exact ⟨(h2 g hg).2, by rw [this]; exact hv g.1⟩

theorem XE {l : List aC} (hl : okL l) : rW l = some (GA l) := by
  unfold rW GA
  rw [TJ hl]
  cases hm : qA l
  · simp
  · simp only [Option.bind_some, Bool.not_true, cond_false, WZ hl, Bool.false_eq_true, if_false]
    cases ht : rG l
    · simp
    · have hn := (oZ hm).1
      have hgl := US l
      have h0 := AF (groups l)
      simp only [Bool.not_true, cond_false, Bool.false_eq_true, if_false, pK, Option.bind_some, uE]
      have hc := OU l l (groups l) 0 (fun g hg => (qM ht hg).1) (by omega) (by omega)
      rw [IS hl (s' := .inl (0 + pR (groups l))) (by rw [hm]; simpa using hc)]
      simp only [Option.bind_some, Sum.elim_inl, Int.zero_add]
      by_cases h7 : 4096 < pR (groups l)
      · simp [h7]
      · simp only [h7, decide_false, cond_false, Bool.false_eq_true, if_false]
        rw [bG ⟨h0, by omega, by omega⟩]
        unfold qJ
        have hp := MC l (groups l) [] (fun g hg => ⟨(qM ht hg).1, (qM ht hg).2, LW hl hg⟩) (by simp; omega)
        rw [IS hl (s' := .inl ([] ++ sR (groups l))) (by rw [hm]; simpa using hp)]
        rfl

def JB (s : aS) : Bool := NV s || ((decide (s.From = -1) && decide (0 ≤ s.To)) && decide (s.To ≤ 1125899906842624))

def nV (p : aM) : Bool := nQ p.Row && JB p.Span

theorem TB (p : aM) : qU p = some (nV p) := by
  unfold qU nV
  rw [BT]
  cases h : nQ p.Row
  · simp [cZ]
  · simp only [cZ, cond_true, Option.bind_some, xS, UZ, JB, Bool.true_and]

theorem FX {s : aS} : JB s = true ↔ -1 ≤ s.From ∧ s.From < s.To ∧ 0 ≤ s.To ∧ s.To ≤ 1125899906842624 := by
  unfold JB NV
  simp only [Bool.or_eq_true, Bool.and_eq_true, decide_eq_true_eq]
  omega

def okP (l : List aM) : Prop := l.length ≤ 3518437208783 ∧ ∀ e ∈ l, e.Row.length ≤ 4398046510976

theorem PF {l : List aM} {f : aM → Option Bool} {g : aM → Bool} (hl : l.length ≤ 1099511627776) (hf : ∀ x ∈ l, f x = some (g x)) : cY l f = some (l.any g) := by
  unfold cY eZ eP
  obtain ⟨x, e, hx⟩ := zZ hl hf l 0 rfl (Nat.zero_le _)
  have e' : lp (fun s => eJ f l (l.length : Nat) s) 0 = some x := e
  rw [e']
  rcases hx with ⟨rfl, h⟩ | ⟨i, rfl, _, _, h, _⟩
  · simp [dD, h]
  · simp [h]

def peL (l : List aM) : List aC := l.flatMap fun p => [⟨p.Row, p.Span.From, 1⟩, ⟨p.Row, p.Span.To, -1⟩]

theorem zS (p : aM) (l : List aM) : peL (p :: l) = [⟨p.Row, p.Span.From, 1⟩, ⟨p.Row, p.Span.To, -1⟩] ++ peL l := rfl

theorem TX (a b : List aM) : peL (a ++ b) = peL a ++ peL b := by simp [peL]

theorem LO : ∀ l : List aM, (peL l).length = 2 * l.length
  | [] => rfl
  | p :: l => by rw [zS, List.length_append, LO l]; simp; omega

theorem TF {l : List aM} (hl : okP l) (h : l.length ≤ 1000000) : okL (peL l) :=
  ⟨by rw [LO]; omega, fun e he => by
    obtain ⟨p, hp, h1⟩ := List.mem_flatMap.1 he
    have := hl.2 p hp
    simp only [List.mem_cons, List.not_mem_nil, or_false] at h1
    rcases h1 with rfl | rfl <;> exact this⟩

def dA (l : List aM) : List aC × Int := if l.any (fun p => !nV p) then ([], 2) else if decide (4096 < l.length) then ([], 7) else iZ (peL l)

theorem XZ {l : List aM} (hl : okP l) (hn : l.length ≤ 1099511627776) : sU l = some (dA l) := by
  unfold sU dA
  rw [PF (g := fun p => !nV p) hn (fun p _ => by simp [qN, TB])]
  simp only [Option.bind_some]
  cases h1 : l.any fun p => !nV p
  · simp only [cond_false, Bool.false_eq_true, if_false]
    by_cases h2 : 4096 < l.length
    · have h2' : (4096 : Int) < ((l.length : Nat) : Int) := by omega
      simp [h2, h2']
    · have h2' : ¬ (4096 : Int) < ((l.length : Nat) : Int) := by omega
      simp only [h2, h2', decide_false, cond_false, Bool.false_eq_true, if_false]
      have hw : IntKind.i64.wrap ((2 : Int) * ((l.length : Nat) : Int)) = 2 * ((l.length : Nat) : Int) := gM (by omega) (by omega)
      rw [hw, bG ⟨by omega, by omega, by omega⟩]
      unfold vT
      rw [zL (l := l) (body := fun s : List aC × Int => mJ l (l.length : Nat) s.1 s.2) (fun o i => (o, i)) (fun o t => o ++ peL t) (fun o t => o.length + 2 * t.length ≤ 1000000) [] ?_ ?_ (by simp; omega)]
      · simp only [Option.bind_some, List.nil_append, rP]
        rw [ZF (TF hl (by omega)) (by rw [LO]; omega)]
        rfl
      · intro i a t o ha hi
        left
        obtain ⟨d1, d2, d3, d4⟩ := idx ha (by omega)
        simp only [List.length_cons] at hi
        refine ⟨o ++ [⟨a.Row, a.Span.From, 1⟩, ⟨a.Row, a.Span.To, -1⟩], ?_, by simp; omega, by rw [zS]; simp⟩
        show mJ _ _ _ _ = _
        simp only [mJ, d1, cond_true, bG d2, d3, d4]
        exact bG (by simp only [List.length_cons, List.length_nil]; omega)
      · intro o _
        show mJ _ _ _ _ = _
        simp only [mJ, lO, cond_false]
        simp [peL]
  · simp

def jB (l : List aM) : List aM × Int := if (dA l).2 ≠ 0 then ([], (dA l).2) else GA (dA l).1

theorem UU {l : List aM} (hl : okP l) : okL (dA l).1 := by
  unfold dA
  split
  · exact LM
  · split
    · exact LM
    · rename_i h
      exact XG (TF hl (by simp at h; omega))

theorem DT {l : List aM} (hl : okP l) (hn : l.length ≤ 1099511627776) : oH l = some (jB l) := by
  unfold oH jB
  rw [XZ hl hn]
  simp only [Option.bind_some]
  by_cases h : (dA l).2 = 0
  · simp only [h, decide_true, Bool.not_true, cond_false, XE (UU hl), Option.bind_some, ne_eq, not_true_eq_false, if_false]
  · simp [h]

end Go.Abs
namespace Go.Abs
open Go
theorem IY {l : List aC} (h : qA l = true) (r : List aF) : look (groups l) r = cA l r := mC (oZ h).2.2 r

end Go.Abs
namespace Go.Abs
open Go
def cnt (t : Int) (l : List Int) : Int := (l.map fun x => if x ≤ t then 1 else 0).sum

theorem CU (t x : Int) (l : List Int) : cnt t (x :: l) = (if x ≤ t then 1 else 0) + cnt t l := by simp [cnt]

theorem IZ (t : Int) (a b : List Int) : cnt t (a ++ b) = cnt t a + cnt t b := by simp [cnt]

theorem yV (t x : Int) : ∀ n : Nat, cnt t (List.replicate n x) = if x ≤ t then (n : Int) else 0
  | 0 => by simp [cnt]
  | n + 1 => by rw [List.replicate_succ, CU, yV t x n]; split <;> omega

theorem SP (t : Int) : ∀ f : List aB, val f t = cnt t (nS f) - cnt t (ends f)
  | [] => rfl
  | j :: f => by
    rw [cG, nF, yL, IZ, IZ, yV, yV, SP t f]
    split <;> omega

def spJ (ss : List aS) : List aB := ss.flatMap fun s => [⟨s.From, 1⟩, ⟨s.To, -1⟩]

theorem QZ (s : aS) (ss : List aS) : spJ (s :: ss) = [⟨s.From, 1⟩, ⟨s.To, -1⟩] ++ spJ ss := rfl

theorem FF (s : aS) (ss : List aS) (t : Int) : val (spJ (s :: ss)) t = (if s.From ≤ t then 1 else 0) - (if s.To ≤ t then 1 else 0) + val (spJ ss) t := by
  rw [QZ, wW, cG, cG, oL]
  simp only
  split <;> split <;> omega

theorem FC {d t : Int} (ht : t < d) : ∀ (B E : List Int), E.length ≤ B.length → val (spJ (pairs d B E)) t = cnt t B - cnt t E
  | [], [], _ => rfl
  | [], _ :: _, h => by simp at h
  | b :: bs, [], _ => by
    rw [pairs, FF, FC ht bs [] (by simp), CU]
    have : ¬ d ≤ t := by omega
    simp only [this, if_false, cnt, List.map_nil, List.sum_nil]
    omega
  | b :: bs, e :: es, h => by
    rw [pairs, FF, FC ht bs es (by simpa using h), CU, CU]
    simp only
    omega

theorem aAj {f : List aB} (h : xO 0 f) : (ends f).length ≤ (nS f).length := by
  rcases DA h with h | h
  · omega
  · subst h; simp [ends]

theorem WN {f : List aB} (h : xO 0 f) {t : Int} (ht : t < 1125899906842624) : val (spJ (rK f)) t = val f t := by
  rw [rK, FC ht _ _ (aAj h), SP]

theorem GQ (d e : Int) : ∀ (n : Nat) (Q B E : List Int), Q.length = n → pairs d (Q ++ B) (List.replicate n e ++ E) = Q.map (fun b => ⟨b, e⟩) ++ pairs d B E
  | 0, Q, B, E, h => by
    have : Q = [] := List.length_eq_zero_iff.1 h
    subst this; simp
  | n + 1, [], B, E, h => by simp at h
  | n + 1, q :: Q, B, E, h => by
    simp only [List.cons_append, List.replicate_succ, pairs, List.map_cons, GQ d e n Q B E (by simpa using h)]

theorem IL {d : Int} : ∀ {f : List aB} {last : Int} {Q : List Int}, sN last f → xO (Q.length : Int) f → (∀ q ∈ Q, q ≤ last) → (∀ q ∈ Q, q < d) → (∀ j ∈ f, j.At < d) → ∀ s ∈ pairs d (Q ++ nS f) (ends f), s.From < s.To ∧ s.To ≤ d ∧ (s.From ∈ Q ∨ s.From ∈ nS f)
  | [], last, Q, _, _, hq, hd, _, s, hs => by
    simp only [nS, ends, List.flatMap_nil, List.append_nil] at hs ⊢
    have key : ∀ Q : List Int, (∀ q ∈ Q, q < d) → ∀ s ∈ pairs d Q [], s.From < s.To ∧ s.To ≤ d ∧ s.From ∈ Q := by
      intro Q
      induction Q with
      | nil => intro _ s hs; simp [pairs] at hs
      | cons q Q ih =>
        intro hd s hs
        rw [pairs] at hs
        rcases List.mem_cons.1 hs with rfl | hs
        · exact ⟨hd q (by simp), Int.le_refl _, by simp⟩
        · obtain ⟨h1, h2, h3⟩ := ih (fun x hx => hd x (by simp [hx])) s hs
          exact ⟨h1, h2, by simp [h3]⟩
    obtain ⟨h1, h2, h3⟩ := key Q hd s hs
    exact ⟨h1, h2, .inl h3⟩
  | j :: r, last, Q, hr, hv, hq, hd, hf, s, hs => by
    have hj := hr.1
    have hjd := hf j (by simp)
    by_cases hn : 0 < j.Net
    · have h0 : (-j.Net).toNat = 0 := by omega
      rw [nF, yL, h0, List.replicate_zero, List.nil_append, ← List.append_assoc] at hs
      obtain ⟨h1, h2, h3⟩ := IL (d := d) (Q := Q ++ List.replicate j.Net.toNat j.At) hr.2 (by
          have := hv.2
          rw [show (((Q ++ List.replicate j.Net.toNat j.At).length : Nat) : Int) = (Q.length : Int) + j.Net by simp; omega]
          exact this) (fun q hq' => by
          rcases List.mem_append.1 hq' with h | h
          · have := hq q h; omega
          · rw [(List.mem_replicate.1 h).2]; exact Int.le_refl _) (fun q hq' => by
          rcases List.mem_append.1 hq' with h | h
          · exact hd q h
          · rw [(List.mem_replicate.1 h).2]; exact hjd) (fun k hk => hf k (by simp [hk])) s hs
      refine ⟨h1, h2, ?_⟩
      rw [nF, List.mem_append]
      rcases h3 with h3 | h3
      · rcases List.mem_append.1 h3 with h | h
        · exact .inl h
        · exact .inr (.inl h)
      · exact .inr (.inr h3)
    · have h0 : j.Net.toNat = 0 := by omega
      have hlen : (-j.Net).toNat ≤ Q.length := by have := hv.1; omega
      rw [nF, yL, h0, List.replicate_zero, List.nil_append] at hs
      have hQ : Q = Q.take (-j.Net).toNat ++ Q.drop (-j.Net).toNat := (List.take_append_drop _ _).symm
      rw [hQ, List.append_assoc, GQ d j.At _ _ _ _ (by simp; omega)] at hs
      rcases List.mem_append.1 hs with hs | hs
      · obtain ⟨q, hq', rfl⟩ := List.mem_map.1 hs
        have hm := List.mem_of_mem_take hq'
        have := hq q hm
        exact ⟨by simp only; omega, by simp only; omega, .inl hm⟩
      · obtain ⟨h1, h2, h3⟩ := IL (d := d) (Q := Q.drop (-j.Net).toNat) hr.2 (by
            have := hv.2
            rw [show (((Q.drop (-j.Net).toNat).length : Nat) : Int) = (Q.length : Int) + j.Net by simp; omega]
            exact this) (fun q hq' => by have := hq q (List.mem_of_mem_drop hq'); omega) (fun q hq' => hd q (List.mem_of_mem_drop hq')) (fun k hk => hf k (by simp [hk])) s hs
        refine ⟨h1, h2, ?_⟩
        rw [nF, h0, List.replicate_zero, List.nil_append]
        rcases h3 with h3 | h3
        · exact .inl (List.mem_of_mem_drop h3)
        · exact .inr h3

theorem SC {f : List aB} (hf : iK f = true) (h : ∀ t, 0 ≤ val f t) {s : aS} (hs : s ∈ rK f) : JB s = true := by
  have hp := UL hf
  obtain ⟨h1, h2, h3⟩ := IL (d := 1125899906842624) (Q := []) (mI.1 hf).2 (by simpa using FK hf h) (by simp) (by simp) (fun j hj => (hp j hj).2) s (by simpa [rK] using hs)
  rcases h3 with h3 | h3
  · simp at h3
  · obtain ⟨j, hj, h4⟩ := List.mem_flatMap.1 h3
    have e := (List.mem_replicate.1 h4).2
    have := hp j hj
    exact FX.2 (by omega)

theorem NR (q r : List aF) (ss : List aS) : cA (peL (wS q ss)) r = if q = r then spJ ss else [] := by
  induction ss with
  | nil => simp [wS, peL, spJ, cA]
  | cons s ss ih =>
    have : wS q (s :: ss) = ⟨q, s⟩ :: wS q ss := rfl
    rw [this, zS, oP, ih]
    by_cases e : q = r
    · simp only [e, if_true, QZ]
      simp [cA, jE]
    · simp [e, cA]

theorem MM {r : List aF} {t : Int} (ht : t < 1125899906842624) : ∀ {gs : List (List aF × List aB)}, rC gs → (∀ g ∈ gs, xO 0 g.2) → val (cA (peL (sR gs)) r) t = val (look gs r) t
  | [], _, _ => rfl
  | g :: gs, hs, hg => by
    have hs' := List.pairwise_cons.1 hs
    rw [CO, TX, oP, wW, NR, pM, MM ht hs'.2 fun q hq => hg q (by simp [hq])]
    by_cases e : g.1 = r
    · rw [if_pos e, if_pos e, WN (hg g (by simp)) ht, tO fun q hq => ?_, oL, Int.add_zero]
      intro h
      have this : iY g.1 q.1 < 0 := hs'.1 q hq
      rw [h, ← e] at this
      exact mA this
    · rw [if_neg e, if_neg e, oL, Int.zero_add]

theorem XH {gs : List (List aF × List aB)} {p : aM} (h : p ∈ sR gs) : ∃ g ∈ gs, p.Row = g.1 ∧ p.Span ∈ rK g.2 := by
  obtain ⟨g, hg, h1⟩ := List.mem_flatMap.1 h
  obtain ⟨s, hs, rfl⟩ := List.mem_map.1 h1
  exact ⟨g, hg, rfl, hs⟩

theorem FO {x : List aC} (ht : rG x = true) {p : aM} (h : p ∈ sR (groups x)) : nV p = true := by
  obtain ⟨g, hg, h1, h2⟩ := XH h
  obtain ⟨a, b⟩ := qM ht hg
  unfold nV
  rw [h1, ((oZ (tY.1 ht).1).2.1 g hg).1, SC a b h2]; rfl

theorem aAp {l : List aM} {e : aC} (h : e ∈ peL l) : ∃ p ∈ l, e = ⟨p.Row, p.Span.From, 1⟩ ∨ e = ⟨p.Row, p.Span.To, -1⟩ := by
  obtain ⟨p, hp, h1⟩ := List.mem_flatMap.1 h
  exact ⟨p, hp, by simpa using h1⟩

theorem aBm {l : List aM} (h : ∀ p ∈ l, nV p = true) : (peL l).any unE = false ∧ (peL l).any AD = false := by
  have key : ∀ e ∈ peL l, nQ e.Row = true ∧ (e.Net = 1 ∨ e.Net = -1) ∧ -1 ≤ e.At ∧ e.At ≤ 1125899906842624 := by
    intro e he
    obtain ⟨p, hp, h1⟩ := aAp he
    have hm := h p hp
    unfold nV at hm
    rw [Bool.and_eq_true, FX] at hm
    rcases h1 with rfl | rfl
    · exact ⟨hm.1, .inl rfl, by simp only; omega, by simp only; omega⟩
    · exact ⟨hm.1, .inr rfl, by simp only; omega, by simp only; omega⟩
  refine ⟨List.any_eq_false.2 fun e he => ?_, List.any_eq_false.2 fun e he => ?_⟩
  · obtain ⟨h1, h2, _⟩ := key e he
    simp only [unE, h1, Bool.not_true, Bool.false_or, Bool.or_eq_true, decide_eq_true_eq]; omega
  · obtain ⟨_, _, h3, h4⟩ := key e he
    simp only [AD, Bool.or_eq_true, decide_eq_true_eq]; omega

theorem ML {l : List aM} (h : ∀ p ∈ l, nV p = true) (hn : l.length ≤ 4096) : dA l = iZ (peL l) := by
  unfold dA
  have : (l.any fun p => !nV p) = false := List.any_eq_false.2 fun p hp => by simp [h p hp]
  rw [this]
  have h2 : decide (4096 < l.length) = false := by simp; omega
  rw [h2]
  simp only [Bool.false_eq_true, if_false]

theorem RT {x : List aC} (ht : rG x = true) : ∀ g ∈ groups x, xO 0 g.2 := fun _ hg => FK (qM ht hg).1 (qM ht hg).2

theorem QS {x : List aC} (ht : rG x = true) (hm : pR (groups x) ≤ 4096) : dA (sR (groups x)) = (x, 0) := by
  have hl := FV (groups x)
  have hmay := (tY.1 ht).1
  have hs := (oZ hmay).2.2
  rw [ML (fun p hp => FO ht hp) (by omega)]
  obtain ⟨u1, u2⟩ := aBm fun p hp => FO ht hp
  refine YN u1 u2 hmay fun r => ?_
  obtain ⟨v1, v2⟩ := NK u1 u2 r
  refine ZA v1 v2 (KA hmay r) fun t h1 h2 => ?_
  rw [MM h2 hs (RT ht), IY hmay]

theorem val_last {f : List aB} (t : Int) : val f t - val f (t - 1) = ((f.filter fun j => decide (j.At = t)).map aB.Net).sum := by
  induction f with
  | nil => rfl
  | cons j f ih =>
    rw [cG, cG]
    by_cases e : j.At = t
    · rw [List.filter_cons_of_pos (by simpa using e), if_pos (by omega), if_neg (by omega), List.map_cons, List.sum_cons, ← ih]; omega
    · rw [List.filter_cons_of_neg (by simpa using e), ← ih]
      by_cases h : j.At ≤ t
      · rw [if_pos h, if_pos (by omega)]; omega
      · rw [if_neg h, if_neg (by omega)]; omega

theorem PK : ∀ f : List aB, (f.map aB.Net).sum ≤ eK f
  | [] => by simp [eK]
  | j :: f => by rw [List.map_cons, List.sum_cons, nZ]; have := PK f; split <;> omega

theorem GP (p : aB → Bool) : ∀ f : List aB, eK f = eK (f.filter p) + eK (f.filter fun j => !p j)
  | [] => rfl
  | j :: f => by
    rw [nZ, GP p f]
    cases h : p j
    · rw [List.filter_cons_of_neg (by simp [h]), List.filter_cons_of_pos (by simp [h]), nZ]; omega
    · rw [List.filter_cons_of_pos (by simp [h]), List.filter_cons_of_neg (by simp [h]), nZ]; omega

theorem EE {f : List aB} {p t : Int} (h : p ≤ t) : val (f.filter fun j => !decide (j.At = p)) t = val f t - (val f p - val f (p - 1)) := by
  induction f with
  | nil => simp [val]
  | cons j f ih =>
    rw [cG, cG, cG]
    by_cases e : j.At = p
    · rw [List.filter_cons_of_neg (by simp [e]), ih, if_pos (by omega), if_pos (by omega), if_neg (by omega)]; omega
    · rw [List.filter_cons_of_pos (by simp [e]), cG, ih]
      by_cases h2 : j.At ≤ p
      · rw [if_pos (by omega), if_pos h2, if_pos (by omega)]; omega
      · rw [if_neg h2, if_neg (show ¬ j.At ≤ p - 1 by omega)]; omega

theorem SU : ∀ {g f : List aB} {last : Int}, Up last g → (∀ t, last < t → t < 1125899906842624 → val g t - val g last = val f t - val f last) → eK g ≤ eK f
  | [], f, _, _, _ => by rw [show eK [] = 0 from rfl]; exact oT f
  | j :: g, f, last, hu, hv => by
    have hj := hu.1
    rw [nZ, GP (fun k => decide (k.At = j.At)) f]
    have h0 : val (j :: g) last = 0 := hu.tM (Int.le_refl _)
    have hjn : j.Net = ((f.filter fun k => decide (k.At = j.At)).map aB.Net).sum := by
      rw [← val_last]
      have h1 := hv j.At hj.1 hj.2.1
      have g1 : val (j :: g) j.At = j.Net := by rw [cG, if_pos (Int.le_refl _), hu.2.tM (Int.le_refl _)]; omega
      by_cases hl : last < j.At - 1
      · have h2 := hv (j.At - 1) hl (by omega)
        have g2 : val (j :: g) (j.At - 1) = 0 := by rw [cG, if_neg (by omega), hu.2.tM (by omega)]; omega
        omega
      · have : j.At - 1 = last := by omega
        rw [this]; omega
    have ih := SU (g := g) (f := f.filter fun k => !decide (k.At = j.At)) (last := j.At) hu.2 fun t h1 h2 => by
      have a1 := hv t (by omega) h2
      have a2 := hv j.At hj.1 hj.2.1
      have b1 : val (j :: g) t = j.Net + val g t := by rw [cG, if_pos (by omega)]
      have b2 : val (j :: g) j.At = j.Net + val g j.At := by rw [cG, if_pos (Int.le_refl _)]
      rw [EE (by omega), EE (Int.le_refl _)]
      omega
    have h3 := PK (f.filter fun k => decide (k.At = j.At))
    have h4 := oT (f.filter fun k => decide (k.At = j.At))
    split <;> omega

theorem VY {f : List aB} (ht : ∀ j ∈ f, -2 < j.At) : eK (vL f) ≤ eK f :=
  SU (CP ht) fun t h1 h2 => by
    rw [FQ ht h1 h2, (CP ht).tM (Int.le_refl _), wF (f := f) (t := -2) fun j hj => ht j hj]

def ofRow (r : List aF) (l : List aM) : Nat := (l.filter fun p => decide (p.Row = r)).length

theorem TO (r : List aF) : ∀ l : List aM, eK (cA (peL l) r) = (ofRow r l : Nat)
  | [] => rfl
  | p :: l => by
    rw [zS, oP, QX, TO r l]
    unfold ofRow
    by_cases e : p.Row = r
    · rw [List.filter_cons_of_pos (by simpa using e)]
      simp [cA, e, jE, eK]
      omega
    · rw [List.filter_cons_of_neg (by simpa using e)]
      simp [cA, e, eK]

theorem IW {α : Type} (p : α → Bool) : ∀ l : List α, (l.filter p).length + (l.filter fun x => !p x).length = l.length
  | [] => rfl
  | a :: l => by
    have := IW p l
    cases h : p a
    · rw [List.filter_cons_of_neg (by simp [h]), List.filter_cons_of_pos (by simp [h])]; simp only [List.length_cons]; omega
    · rw [List.filter_cons_of_pos (by simp [h]), List.filter_cons_of_neg (by simp [h])]; simp only [List.length_cons]; omega

theorem MJ : ∀ {rs : List (List aF)}, rs.Nodup → ∀ l : List aM, (rs.map fun r => ofRow r l).sum ≤ l.length
  | [], _, l => by simp
  | r :: rs, hn, l => by
    have hn' := List.nodup_cons.1 hn
    have h1 := MJ hn'.2 (l.filter fun p => !decide (p.Row = r))
    have h2 : (rs.map fun q => ofRow q l) = rs.map fun q => ofRow q (l.filter fun p => !decide (p.Row = r)) := by
      refine List.map_congr_left fun q hq => ?_
      have hne : q ≠ r := fun e => hn'.1 (e ▸ hq)
      unfold ofRow
      rw [List.filter_filter]
      congr 1
      refine List.filter_congr fun p _ => ?_
      by_cases e : p.Row = q
      · have : p.Row ≠ r := fun h => hne (e ▸ h)
        simp [e, hne]
      · simp [e]
    rw [List.map_cons, List.sum_cons, h2]
    have h3 : ofRow r l + (l.filter fun p => !decide (p.Row = r)).length = l.length := by
      unfold ofRow
      exact IW _ l
    omega

theorem UF {rs : List (List aF)} (h : DC rs) : rs.Nodup := by
  unfold List.Nodup
  exact h.imp fun {a b} hab e => by subst e; exact mA hab

theorem yH {l : List aM} (h : (dA l).2 = 0) : (∀ p ∈ l, nV p = true) ∧ l.length ≤ 4096 ∧ dA l = iZ (peL l) := by
  unfold dA at h
  split at h
  · simp at h
  · rename_i h1
    split at h
    · simp at h
    · rename_i h2
      have a : ∀ p ∈ l, nV p = true := fun p hp => by
        rw [Bool.not_eq_true, List.any_eq_false] at h1
        simpa using h1 p hp
      have b : l.length ≤ 4096 := by simp at h2; omega
      exact ⟨a, b, ML a b⟩

def BL (r : List aF) (t : Int) (l : List aM) : Int := (l.map fun p => if p.Row = r ∧ p.Span.From ≤ t ∧ t < p.Span.To then 1 else 0).sum

theorem GR (r : List aF) (t : Int) (p : aM) (l : List aM) : BL r t (p :: l) = (if p.Row = r ∧ p.Span.From ≤ t ∧ t < p.Span.To then 1 else 0) + BL r t l := by simp [BL]

theorem DW (r : List aF) (t : Int) : ∀ l, 0 ≤ BL r t l
  | [] => by simp [BL]
  | p :: l => by rw [GR]; have := DW r t l; split <;> omega

theorem XV {r : List aF} {t : Int} : ∀ {l : List aM}, (∀ p ∈ l, nV p = true) → val (cA (peL l) r) t = BL r t l
  | [], _ => rfl
  | p :: l, h => by
    rw [zS, oP, wW, XV fun q hq => h q (by simp [hq]), GR]
    have hm := h p (by simp)
    unfold nV at hm
    rw [Bool.and_eq_true, FX] at hm
    by_cases e : p.Row = r
    · have : cA [⟨p.Row, p.Span.From, 1⟩, ⟨p.Row, p.Span.To, -1⟩] r = [⟨p.Span.From, 1⟩, ⟨p.Span.To, -1⟩] := by simp [cA, e, jE]
      rw [this, cG, cG, oL]
      simp only [e, true_and]
      split <;> split <;> split <;> omega
    · have : cA [⟨p.Row, p.Span.From, 1⟩, ⟨p.Row, p.Span.To, -1⟩] r = [] := by simp [cA, e]
      rw [this, oL, if_neg (by simp [e])]

theorem wL {l : List aM} (h : (dA l).2 = 0) : rG (dA l).1 = true := by
  obtain ⟨a, b, c⟩ := yH h
  rw [c] at h ⊢
  exact RQ h fun r t _ _ => by rw [XV a]; exact DW ..

theorem HC {l : List aM} (h : (dA l).2 = 0) : pR (groups (dA l).1) ≤ l.length := by
  have ht := wL h
  have hmay := (tY.1 ht).1
  rw [← RZ hmay]
  have h1 : pR (pZ (dA l).1) ≤ (((rowsOf (dA l).1).map fun r => ofRow r l).sum : Nat) := by
    unfold pR pZ
    rw [List.map_map]
    induction rowsOf (dA l).1 with
    | nil => simp
    | cons r rs ih =>
      simp only [List.map_cons, List.sum_cons, Function.comp]
      have : eK (cA (dA l).1 r) ≤ (ofRow r l : Nat) := by
        obtain ⟨a, b, c⟩ := yH h
        have h' := h
        rw [c] at h' ⊢
        rw [HF h', ← TO]
        exact VY (zV h' r)
      omega
  have h2 := MJ (UF (wX (dA l).1)) l
  omega

theorem HQ {l : List aM} : jB l = if (dA l).2 = 0 then (sR (groups (dA l).1), 0) else ([], (dA l).2) := by
  unfold jB
  by_cases h : (dA l).2 = 0
  · rw [if_neg (by simp [h]), if_pos h]
    have ht := wL h
    have hm := HC h
    have hn := (yH h).2.1
    unfold GA
    rw [(tY.1 ht).1, ht]
    have : decide (4096 < pR (groups (dA l).1)) = false := by simp; omega
    rw [this]
    simp only [Bool.not_true, Bool.false_eq_true, if_false]
  · rw [if_pos h, if_neg h]

theorem DU {l : List aM} (h : (jB l).2 = 0) : (dA l).2 = 0 ∧ jB l = (sR (groups (dA l).1), 0) ∧ dA (jB l).1 = ((dA l).1, 0) ∧ (jB l).1.length ≤ l.length := by
  rw [HQ] at h
  split at h
  · rename_i he
    have hp : jB l = (sR (groups (dA l).1), 0) := by rw [HQ, if_pos he]
    have hm := HC he
    have hn := (yH he).2.1
    have hl := FV (groups (dA l).1)
    refine ⟨he, hp, ?_, by rw [hp]; simp only; omega⟩
    rw [hp]
    exact QS (wL he) (by omega)
  · rename_i he
    exact absurd h he

theorem ZU {a b : List aM} (h : a.Perm b) : (peL a).Perm (peL b) := h.flatMap_right _

theorem SB {a b : List aM} (h : a.Perm b) : dA a = dA b := by
  unfold dA
  have h1 : (a.any fun p => !nV p) = b.any fun p => !nV p := by
    cases e : b.any fun p => !nV p
    · rw [List.any_eq_false] at e ⊢
      exact fun x hx => e x (h.mem_iff.1 hx)
    · obtain ⟨x, hx, hp⟩ := List.any_eq_true.1 e
      exact List.any_eq_true.2 ⟨x, h.mem_iff.2 hx, hp⟩
  rw [h1, h.length_eq, VF (ZU h)]

theorem VP {l a : List aM} (h : (jB l).2 = 0) (hp : a.Perm (jB l).1) : jB a = jB l := by
  obtain ⟨h1, h2, h3, _⟩ := DU h
  have he : dA a = ((dA l).1, 0) := by rw [SB hp, h3]
  rw [HQ, he, h2]
  simp

end Go.Abs
namespace Go.Abs
open Go
theorem qE (x y : aM) : x = y ↔ (x.Span.From = y.Span.From ∧ x.Span.To = y.Span.To) ∧ x.Row = y.Row := by
  obtain ⟨r, a, b⟩ := x
  obtain ⟨q, c, d⟩ := y
  simp only [aM.mk.injEq, aS.mk.injEq]
  constructor
  · rintro ⟨h1, h2, h3⟩; exact ⟨⟨h2, h3⟩, h1⟩
  · rintro ⟨⟨h2, h3⟩, h1⟩; exact ⟨h1, h2, h3⟩

theorem QT (x y : aM) (hl : x.Row.length ≤ 17592186044416) : nN x y = some (decide (x = y)) := by
  unfold nN
  rw [JM _ _ hl]
  by_cases h : x.Span.From = y.Span.From ∧ x.Span.To = y.Span.To
  · by_cases h2 : x.Row = y.Row
    · simp [h.1, h.2, h2, cZ, qE]
    · simp [h.1, h.2, h2, cZ, qE]
  · have : ((decide (x.Span.From = y.Span.From)) && ((decide (x.Span.To = y.Span.To)) && true)) = false := by
      simp only [Bool.and_true, Bool.and_eq_false_iff, decide_eq_false_iff_not]
      by_cases h1 : x.Span.From = y.Span.From
      · exact .inr fun h2 => h ⟨h1, h2⟩
      · exact .inl h1
    have hn : ¬ x = y := fun e => h ((qE x y).1 e).1
    rw [this]; simp [cZ, hn]

theorem RF {a b : List aM} (hl : okP a) : sE a b = some (decide (a = b)) := by
  unfold sE cL
  have hlen := hl.1
  by_cases he : a.length = b.length
  · rw [JA he, cond_false]
    unfold cK
    have := KJ (f := a) (g := b) (body := fun s => bW (fun y0 y1 => nN y0 y1) b a (a.length : Nat) s) he ?_ ?_ a.length 0 rfl (Nat.zero_le _)
    · simp only [Int.natCast_zero, List.drop_zero] at this
      rw [this]
      by_cases h : a = b <;> simp [h, cD]
    · intro i x y hx hy
      obtain ⟨d1, d2, d3, d4⟩ := idx hx (by omega)
      obtain ⟨_, e2, e3, _⟩ := idx hy (by omega)
      have hr := hl.2 x (List.mem_of_getElem? hx)
      simp only [bW, d1, cond_true, bG d2, bG e2, d3, e3, d4, QT x y (by omega), Option.bind_some]
      by_cases h : x = y <;> simp [h]
    · simp only [bW, lO, cond_false]
  · rw [JL he, cond_true]
    have : a ≠ b := fun h => he (by rw [h])
    simp [this]

theorem GO {a b : List aM} (hl : okP a) : oS a b = some (decide (a = b)) := by
  unfold oS
  have hlen := hl.1
  by_cases he : a.length = b.length
  · rw [JA he, cond_false]
    unfold vO
    have := KJ (f := a) (g := b) (body := fun s => pL a b s) he ?_ ?_ a.length 0 rfl (Nat.zero_le _)
    · simp only [Int.natCast_zero, List.drop_zero] at this
      rw [this]
      by_cases h : a = b <;> simp [h, rL]
    · intro i x y hx hy
      obtain ⟨d1, d2, d3, d4⟩ := idx hx (by omega)
      obtain ⟨_, e2, e3, _⟩ := idx hy (by omega)
      have hr := hl.2 x (List.mem_of_getElem? hx)
      simp only [pL, d1, cond_true, bG d2, bG e2, d3, e3, d4]
      rw [bG fun _ => d2, bG fun _ => e2, NM _ _ (by omega)]
      by_cases h : x.Span.From = y.Span.From ∧ x.Span.To = y.Span.To
      · by_cases h2 : x.Row = y.Row
        · simp [h.1, h.2, h2, cZ, qE]
        · simp [h.1, h.2, h2, cZ, qE]
      · have : ((decide (x.Span.From = y.Span.From)) && ((decide (x.Span.To = y.Span.To)) && true)) = false := by
          simp only [Bool.and_true, Bool.and_eq_false_iff, decide_eq_false_iff_not]
          by_cases h1 : x.Span.From = y.Span.From
          · exact .inr fun h2 => h ⟨h1, h2⟩
          · exact .inl h1
        have hn : ¬ x = y := fun e => h ((qE x y).1 e).1
        rw [this]; simp [cZ, hn]
    · simp only [pL, lO, cond_false]
  · rw [JL he, cond_true]
    have : a ≠ b := fun h => he (by rw [h])
    simp [this]

def lV (a b : Int) : aM := ⟨[⟨1, 1, ByteArray.empty⟩], ⟨a, b⟩⟩

theorem ZS (a b : Int) : jJ a b = some (lV a b) := rfl

theorem IN {l : List aM} (h : l.length ≤ 4096) (hr : ∀ e ∈ l, e.Row.length ≤ 8) : okP l := ⟨by omega, fun e he => by have := hr e he; omega⟩

theorem aAy : jB [lV 5 9, lV 2 5] = ([lV 2 9], 0) := by decide +kernel

theorem aAM : jB [lV 1 10, lV 3 5] = ([lV 1 5, lV 3 10], 0) := by decide +kernel

theorem EF : oR = some true := by
  unfold oR
  simp only [ZS, Option.bind_some]
  rw [DT (l := [lV 5 9, lV 2 5]) (IN (by simp) (by simp [lV])) (by simp), aAy]
  simp only [Option.bind_some]
  rw [DT (l := [lV 1 10, lV 3 5]) (IN (by simp) (by simp [lV])) (by simp), aAM]
  simp only [Option.bind_some]
  have g1 : sE [lV 2 9] [lV 2 9] = some (decide ([lV 2 9] = [lV 2 9])) := RF (IN (by simp) (by simp [lV]))
  have g2 : oS [lV 1 5, lV 3 10] [lV 1 5, lV 3 10] = some (decide ([lV 1 5, lV 3 10] = [lV 1 5, lV 3 10])) := GO (IN (by simp) (by simp [lV]))
  have h1 : nV (lV (-1) 0) = true := by decide +kernel
  have h2 : nV (lV 3 3) = false := by decide +kernel
  simp [cZ, g1, g2, TB, h1, h2]

end Go.Abs
namespace Go.Abs
open Go
theorem aBg {l : List aM} (m : ∀ a ∈ l, tE a) (y : List.length l * 40 ≤ 140737488351232) : okP l :=
  ⟨by omega, fun e he => by have := (m e he).1.2; omega⟩

theorem YJ {p : aM} (h : nV p = true) : p.Row.length ≤ 8 := by
  unfold nV at h
  rw [Bool.and_eq_true] at h
  exact (LC h.1).1

theorem aAE {l : List aM} (h : ∀ p ∈ l, nV p = true) (hn : l.length ≤ 1000000) : okP l :=
  ⟨by omega, fun e he => by have := YJ (h e he); omega⟩

theorem WX {l : List aM} (h : (jB l).2 = 0) : ∀ p ∈ (jB l).1, nV p = true := by
  obtain ⟨h1, h2, _, _⟩ := DU h
  rw [h2]
  exact fun p hp => FO (wL h1) hp

theorem QU {l : List aM} (h : (jB l).2 = 0) : (jB l).1.length ≤ 4096 := by
  obtain ⟨h1, _, _, h4⟩ := DU h
  have := (yH h1).2.1
  omega

theorem WU {l : List aM} (h : (jB l).2 = 0) : okP (jB l).1 := aAE (WX h) (by have := QU h; omega)

end Go.Abs
namespace Go.Abs
open Go
theorem MT (l0 a : List aM) (hl : a.length ≤ 1000000) : ∀ k : Nat, k ≤ a.length → lp (fun s : List aM × Int => iW l0 a s.1 s.2) ((a.drop k).reverse, (k : Int) - 1) = some a.reverse
  | 0, _ => cR (by
      show iW _ _ _ _ = _
      have : decide ((0 : Int) ≤ ((0 : Nat) : Int) - 1) = false := by simp
      simp only [iW, this, cond_false, List.drop_zero])
  | k + 1, h => by
    have hk : k < a.length := by omega
    have e : a[k]? = some a[k] := List.getElem?_eq_getElem hk
    obtain ⟨_, e2, e3, _⟩ := idx e (by omega)
    rw [eG (s' := ((a.drop k).reverse, (k : Int) - 1)) ?_, MT l0 a hl k (by omega)]
    show iW _ _ _ _ = _
    have h1 : (((k + 1 : Nat) : Int) - 1) = (k : Int) := by omega
    have h2 : decide ((0 : Int) ≤ (k : Int)) = true := by simp
    simp only [iW, h1, h2, cond_true, bG e2, e3]
    rw [bG (by simp only [List.length_reverse, List.length_drop, List.length_cons, List.length_nil]; omega), gM (by omega) (by omega)]
    rw [List.drop_eq_getElem_cons hk, List.reverse_cons]

theorem NJ (l0 : (List aM)) (m0 : ∀ a ∈ l0, tE a) (y0 : List.length l0 * 40 ≤ 140737488351232) : qV l0 = some true := by
  have k0 := aBg m0 y0
  unfold qV
  by_cases c : (2000 : Int) < ((List.length l0 : Nat) : Int)
  · simp [c, EF]
  · have hn : l0.length ≤ 1099511627776 := by omega
    simp only [c, decide_false, cond_false, DT k0 hn, Option.bind_some]
    by_cases e : (jB l0).2 = 0
    · have hle := QU e
      have hok := WU e
      have hlen := (DU e).2.2.2
      simp only [e, decide_true, Bool.not_true, cond_false, qB]
      rw [gM (by omega) (by omega)]
      have := MT l0 (jB l0).1 (by omega) (jB l0).1.length (Nat.le_refl _)
      rw [List.drop_length, List.reverse_nil] at this
      rw [this]
      have hp : (jB l0).1.reverse.Perm (jB l0).1 := List.reverse_perm _
      have hr : okP (jB l0).1.reverse := ⟨by rw [List.length_reverse]; omega, fun p hp' => hok.2 p (List.mem_reverse.1 hp')⟩
      simp only [Option.bind_some, nR]
      rw [DT hr (by rw [List.length_reverse]; omega), VP e hp]
      have hd : decide (((List.length (jB l0).1 : Nat) : Int) ≤ ((List.length l0 : Nat) : Int)) = true := by simp; omega
      simp [EF, cZ, e, GO hok, hd]
      omega
    · simp [EF, e]

end Go.Abs
