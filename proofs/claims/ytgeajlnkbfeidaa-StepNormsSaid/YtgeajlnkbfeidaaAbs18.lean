/- What is a walk's own in memory, and the rules by it. -/
import Derived.Test.YtgeajlnkbfeidaaAbs17
namespace Go.Abs
open Go Go.RowKit

variable {P : Program} {tt : TT} {ro : Option Nat} {N : Nat} {T : Env} {H : Heap} {ds : List Nat} {Q : Exit → Env → Heap → List Nat → Prop}

/-- What is to stay: what was there, but for some places. -/
structure Frame where
  h : Heap
  e : List Nat

def FExt (F : Frame) (H : Heap) : Prop := F.h.length ≤ H.length ∧ ∀ l, l < F.h.length → l ∉ F.e → H[l]? = F.h[l]?

theorem FExt.refl (H : Heap) (e : List Nat) : FExt ⟨H, e⟩ H := ⟨Nat.le_refl _, fun _ _ _ => rfl⟩
theorem FExt.push {F : Frame} {H : Heap} (h : FExt F H) (o : AObj) : FExt F (H ++ [o]) := ⟨by simp; have := h.1; omega, fun l hl he => by rw [List.getElem?_append_left (Nat.lt_of_lt_of_le hl h.1)]; exact h.2 l hl he⟩
theorem FExt.set {F : Frame} {H : Heap} (h : FExt F H) {l : Nat} (hl : F.h.length ≤ l ∨ l ∈ F.e) (o : AObj) : FExt F (H.set l o) := ⟨by simp; exact h.1, fun k hk he => by
  have hne : l ≠ k := by
    rintro rfl
    rcases hl with hl | hl
    · omega
    · exact he hl
  rw [List.getElem?_set_ne hne]; exact h.2 k hk he⟩
theorem FExt.trans {F : Frame} {H H' : Heap} (h : FExt F H) (hx : HExt H H') : FExt F H' := ⟨Nat.le_trans h.1 hx.1, fun l hl he => (hx.2 l (Nat.lt_of_lt_of_le hl h.1)).trans (h.2 l hl he)⟩
theorem FExt.trans1 {F : Frame} {H H' : Heap} {lo : Nat} (h : FExt F H) (hx : FExt ⟨H, [lo]⟩ H') (hl : F.h.length ≤ lo ∨ lo ∈ F.e) : FExt F H' := ⟨Nat.le_trans h.1 hx.1, fun l hl' he => by
  have hne : l ≠ lo := by
    rintro rfl
    rcases hl with hl | hl
    · omega
    · exact he hl
  exact (hx.2 l (Nat.lt_of_lt_of_le hl' h.1) (by simpa using hne)).trans (h.2 l hl' he)⟩

/-- What a walk made itself: places, each with what it holds; all that was there ahead of it stays. -/
structure Owns (H0 : Frame) (H : Heap) (L : List (Nat × Nat × List V)) : Prop where
  ext : FExt H0 H
  ne : ∀ (i j : Nat) p q, L[i]? = some p → L[j]? = some q → i ≠ j → p.1 ≠ q.1
  mem : ∀ (i : Nat) lo k es, L[i]? = some (lo, k, es) → (H0.h.length ≤ lo ∨ lo ∈ H0.e) ∧ H[lo]? = some (.vec k es)

theorem Owns.start (H : Heap) : Owns ⟨H, []⟩ H [] := ⟨FExt.refl H _, by simp, by simp⟩

theorem Owns.start1 {H : Heap} {lo k : Nat} {es : List V} (h : H[lo]? = some (.vec k es)) : Owns ⟨H, [lo]⟩ H [(lo, k, es)] := ⟨FExt.refl H _, fun i j p q hi hj hne => by
  cases i with
  | zero => cases j with
    | zero => exact absurd rfl hne
    | succ j => simp at hj
  | succ i => simp at hi, fun i lo' k' es' hi => by
  cases i with
  | zero => simp at hi; obtain ⟨rfl, rfl, rfl⟩ := hi; exact ⟨.inr (by simp), h⟩
  | succ i => simp at hi⟩

theorem Owns.out {H0 H : Heap} {L : List (Nat × Nat × List V)} (h : Owns ⟨H0, []⟩ H L) : HExt H0 H := ⟨h.ext.1, fun l hl => h.ext.2 l hl (by simp)⟩

theorem Owns.lt {H0 : Frame} {H : Heap} {L : List (Nat × Nat × List V)} (h : Owns H0 H L) {i : Nat} {p : Nat × Nat × List V} (hi : L[i]? = some p) : p.1 < H.length := (List.getElem?_eq_some_iff.1 (h.mem i p.1 p.2.1 p.2.2 hi).2).1

theorem Owns.at {H0 : Frame} {H : Heap} {L : List (Nat × Nat × List V)} (h : Owns H0 H L) (i : Nat) {lo k : Nat} {es : List V} (hi : L[i]? = some (lo, k, es)) : H[lo]? = some (.vec k es) := (h.mem i lo k es hi).2

theorem get_snoc {α : Type} {L : List α} {x p : α} {i : Nat} (h : (L ++ [x])[i]? = some p) : (i < L.length ∧ L[i]? = some p) ∨ (i = L.length ∧ p = x) := by
  by_cases hlt : i < L.length
  · rw [List.getElem?_append_left hlt] at h; exact .inl ⟨hlt, h⟩
  · rw [List.getElem?_append_right (by omega)] at h
    cases hz : i - L.length with
    | zero => rw [hz] at h; simp at h; exact .inr ⟨by omega, h.symm⟩
    | succ n => rw [hz] at h; simp at h

theorem get_set {α : Type} {L : List α} {x p : α} {q i : Nat} (h : (L.set q x)[i]? = some p) : (i ≠ q ∧ L[i]? = some p) ∨ (i = q ∧ p = x) := by
  rw [List.getElem?_set] at h
  by_cases hq : q = i
  · rw [if_pos hq] at h
    split at h
    · simp at h; exact .inr ⟨hq.symm, h.symm⟩
    · cases h
  · rw [if_neg hq] at h; exact .inl ⟨Ne.symm hq, h⟩

theorem Owns.new {H0 : Frame} {H : Heap} {L : List (Nat × Nat × List V)} (h : Owns H0 H L) (k : Nat) (es : List V) : Owns H0 (H ++ [.vec k es]) (L ++ [(H.length, k, es)]) where
  ext := h.ext.push _
  ne i j p q hi hj hij := by
    rcases get_snoc hi with ⟨_, hi⟩ | ⟨rfl, rfl⟩ <;> rcases get_snoc hj with ⟨_, hj⟩ | ⟨rfl, rfl⟩
    · exact h.ne i j p q hi hj hij
    · exact Nat.ne_of_lt (h.lt hi)
    · exact (Nat.ne_of_lt (h.lt hj)).symm
    · exact absurd rfl hij
  mem i lo k' es' hi := by
    rcases get_snoc hi with ⟨_, hi⟩ | ⟨rfl, hp⟩
    · obtain ⟨h1, h2⟩ := h.mem i lo k' es' hi
      exact ⟨h1, heap_push_old h2⟩
    · cases hp; exact ⟨.inl h.ext.1, heap_push _ _⟩

/-- One of what is own is written. -/
theorem Owns.put {H0 : Frame} {H : Heap} {L : List (Nat × Nat × List V)} (h : Owns H0 H L) (i : Nat) {lo k : Nat} {es : List V} (hi : L[i]? = some (lo, k, es)) (es' : List V) : Owns H0 (H.set lo (.vec k es')) (L.set i (lo, k, es')) where
  ext := h.ext.set (h.mem i lo k es hi).1 _
  ne a b p q ha hb hab := by
    rcases get_set ha with ⟨n1, a1⟩ | ⟨e1, e2⟩ <;> rcases get_set hb with ⟨n2, b1⟩ | ⟨e3, e4⟩
    · exact h.ne a b p q a1 b1 hab
    · rw [e4]; exact h.ne a i p (lo, k, es) a1 hi n1
    · rw [e2]; exact h.ne i b (lo, k, es) q hi b1 (Ne.symm n2)
    · exact absurd (e1.trans e3.symm) hab
  mem j lo' k' e' hj := by
    rcases get_set hj with ⟨n1, hj⟩ | ⟨rfl, hp⟩
    · obtain ⟨h1, h2⟩ := h.mem j lo' k' e' hj
      exact ⟨h1, by rw [List.getElem?_set_ne (h.ne _ _ _ _ hi hj (Ne.symm n1))]; exact h2⟩
    · cases hp
      exact ⟨(h.mem j _ _ _ hi).1, by rw [List.getElem?_set_self (h.lt hi)]⟩

/-- One of what is own goes elsewhere. -/
theorem Owns.app {H0 : Frame} {H : Heap} {L : List (Nat × Nat × List V)} (h : Owns H0 H L) (i : Nat) {lo k n : Nat} {es : List V} (hi : L[i]? = some (lo, k, es)) (es' : List V) :
    Owns H0 (appH k H (.msl k lo 0 n) es') (L.set i (H.length, k, es')) where
  ext := (h.ext.set (h.mem i lo k es hi).1 _).push _
  ne a b p q ha hb hab := by
    rcases get_set ha with ⟨n1, a1⟩ | ⟨e1, e2⟩ <;> rcases get_set hb with ⟨n2, b1⟩ | ⟨e3, e4⟩
    · exact h.ne a b p q a1 b1 hab
    · rw [e4]; exact Nat.ne_of_lt (h.lt a1)
    · rw [e2]; exact (Nat.ne_of_lt (h.lt b1)).symm
    · exact absurd (e1.trans e3.symm) hab
  mem j lo' k' e' hj := by
    unfold appH
    rcases get_set hj with ⟨n1, hj⟩ | ⟨rfl, hp⟩
    · obtain ⟨h1, h2⟩ := h.mem j lo' k' e' hj
      exact ⟨h1, heap_push_old (by rw [List.getElem?_set_ne (h.ne _ _ _ _ hi hj (Ne.symm n1))]; exact h2)⟩
    · cases hp
      refine ⟨.inl h.ext.1, ?_⟩
      simp

theorem Owns.call {H0 : Frame} {H H' : Heap} {L : List (Nat × Nat × List V)} (h : Owns H0 H L) (hx : HExt H H') : Owns H0 H' L :=
  ⟨h.ext.trans hx, h.ne, fun i lo k es hi => let ⟨a, b⟩ := h.mem i lo k es hi; ⟨a, hx.at b⟩⟩

theorem nodup_get {l : List Nat} (h : l.Nodup) {i j : Nat} {x : Nat} (hi : l[i]? = some x) (hj : l[j]? = some x) : i = j := by
  obtain ⟨h1, h2⟩ := List.getElem?_eq_some_iff.1 hi
  obtain ⟨h3, h4⟩ := List.getElem?_eq_some_iff.1 hj
  exact (List.getElem_inj h).1 (h2.trans h4.symm)

/-- One of what is own is changed by a call. -/
theorem Owns.callI {H0 : Frame} {H H' : Heap} {L : List (Nat × Nat × List V)} (h : Owns H0 H L) (q : Nat) {lo k : Nat} {es es' : List V} (hq : L[q]? = some (lo, k, es)) (hx : FExt ⟨H, [lo]⟩ H') (hl : H'[lo]? = some (.vec k es')) : Owns H0 H' (L.set q (lo, k, es')) where
  ext := h.ext.trans1 hx (h.mem q lo k es hq).1
  ne a b p q' ha hb hab := by
    rcases get_set ha with ⟨n1, a1⟩ | ⟨e1, e2⟩ <;> rcases get_set hb with ⟨n2, b1⟩ | ⟨e3, e4⟩
    · exact h.ne a b p q' a1 b1 hab
    · rw [e4]; exact h.ne a q p (lo, k, es) a1 hq n1
    · rw [e2]; exact h.ne q b (lo, k, es) q' hq b1 (Ne.symm n2)
    · exact absurd (e1.trans e3.symm) hab
  mem j lo' k' e' hj := by
    rcases get_set hj with ⟨n1, hj⟩ | ⟨rfl, hp⟩
    · obtain ⟨h1, h2⟩ := h.mem j lo' k' e' hj
      refine ⟨h1, ?_⟩
      have hne := h.ne _ _ _ _ hq hj (Ne.symm n1)
      exact (hx.2 lo' (List.getElem?_eq_some_iff.1 h2).1 (by simpa using hne.symm)).trans h2
    · cases hp
      exact ⟨(h.mem j _ _ _ hq).1, hl⟩

/-- Some of what is own, in another order. -/
theorem Owns.pick {H0 : Frame} {H : Heap} {L L' : List (Nat × Nat × List V)} (h : Owns H0 H L) (is : List Nat) (hd : is.Nodup) (hl : is.map (fun i => L[i]?) = L'.map some) : Owns H0 H L' := by
  have hlen : is.length = L'.length := by simpa using congrArg List.length hl
  have key : ∀ (j : Nat) p, L'[j]? = some p → ∃ i, is[j]? = some i ∧ L[i]? = some p := by
    intro j p hj
    have hlt := (List.getElem?_eq_some_iff.1 hj).1
    have hlt' : j < is.length := by omega
    refine ⟨is[j], by simp, ?_⟩
    have := congrArg (fun l => l[j]?) hl
    simpa [hj, hlt'] using this
  refine ⟨h.ext, fun a b p q ha hb hab => ?_, fun i lo k es hi => ?_⟩
  · obtain ⟨ia, a1, a2⟩ := key a p ha
    obtain ⟨ib, b1, b2⟩ := key b q hb
    refine h.ne ia ib p q a2 b2 fun hc => hab ?_
    subst hc
    exact nodup_get hd a1 b1
  · obtain ⟨j, _, h2⟩ := key i _ hi
    exact h.mem j lo k es h2

theorem Owns.kill {H0 : Frame} {H : Heap} {L L' : List (Nat × Nat × List V)} (h : Owns H0 H L) (i : Nat) {lo k : Nat} {es : List V} (hi : L[i]? = some (lo, k, es)) (hl : L' = L.eraseIdx i) : Owns H0 (H.set lo .dead) L' := by
  subst hl
  have key : ∀ (j : Nat) p, (L.eraseIdx i)[j]? = some p → ∃ j', j' ≠ i ∧ L[j']? = some p ∧ j' = if j < i then j else j + 1 := by
    intro j p hj
    rw [List.getElem?_eraseIdx] at hj
    by_cases hlt : j < i
    · rw [if_pos hlt] at hj; exact ⟨j, by omega, hj, by rw [if_pos hlt]⟩
    · rw [if_neg hlt] at hj; exact ⟨j + 1, by omega, hj, by rw [if_neg hlt]⟩
  refine ⟨h.ext.set (h.mem i lo k es hi).1 _, fun a b p q ha hb hab => ?_, fun j lo' k' e' hj => ?_⟩
  · obtain ⟨a', _, a1, a2⟩ := key a p ha
    obtain ⟨b', _, b1, b2⟩ := key b q hb
    refine h.ne a' b' p q a1 b1 ?_
    subst a2; subst b2
    split <;> split <;> omega
  · obtain ⟨j', n1, j1, _⟩ := key j _ hj
    obtain ⟨h1, h2⟩ := h.mem j' lo' k' e' j1
    exact ⟨h1, by rw [List.getElem?_set_ne (h.ne _ _ _ _ hi j1 (Ne.symm n1))]; exact h2⟩

/-! ### Rules of regions -/

/-- An operation by its number, with its conditions. -/
def condAt (N : Nat) (ops : Array Oper) (T : Env) (i : Nat) : Option (Ctx × Op) := match ops[i]? with
  | some o => match ctxOf ops T o with
    | some ctx => match dstOk N o ctx with
      | true => some (ctx, o.op)
      | false => none
    | none => none
  | none => none

theorem condAt_spec {ops : Array Oper} {i : Nat} {ctx : Ctx} {op : Op} (h : condAt N ops T i = some (ctx, op)) : ∃ o, ops[i]? = some o ∧ o.op = op ∧ ctxOf ops T o = some ctx ∧ dstOk N o ctx = true ∧ dstAt ops i = o.dst := by
  unfold condAt at h
  split at h
  · rename_i o ho
    split at h
    · rename_i c hc
      split at h
      · rename_i hd
        simp at h; obtain ⟨rfl, rfl⟩ := h
        exact ⟨o, ho, rfl, hc, hd, by simp [dstAt, ho]⟩
      · simp at h
    · simp at h
  · simp at h

section rules
variable {ops : Array Oper} {K : Env → Heap → Prop} {i n : Nat}

/-- An operation with an effect that may be left out. -/
theorem R_effG {ctx : Ctx} {op : Op} {y : V} (hs : fromTo i n = i :: fromTo (i + 1) n) (hp : condAt N ops T i = some (ctx, op))
    (h : gB T ctx = true → effW P tt T ctx op H (fun x H' => RWs P tt N ops (fromTo (i + 1) n) (T.setO (dstAt ops i) (ctx, x)) H' K))
    (h' : gB T ctx = false → RWs P tt N ops (fromTo (i + 1) n) (T.setO (dstAt ops i) (ctx, y)) H K) : RWs P tt N ops (fromTo i n) T H K := by
  rw [hs]
  obtain ⟨o, ho, rfl, hctx, hd, hdst⟩ := condAt_spec hp
  rw [hdst] at h h'
  exact ⟨T, H, Ghost.refl _ _ _, o, ctx, ho, hctx, hd, .inr ⟨h, fun hb => ⟨y, h' hb⟩⟩⟩

def decCallG (N : Nat) (ops : Array Oper) (T : Env) (i : Nat) : Option (Ctx × Nat × List V) := match condAt N ops T i with
  | some (ctx, .call ⟨.value f, args, _⟩) => match evalO T ctx f, evalL T ctx args.toList with
    | some (.fn (.func fid) ys cs), some xs => some (ctx, fid, ys ++ xs ++ cs)
    | _, _ => none
  | _ => none

/-- A call, by what is known of its answer. -/
theorem R_callG (ctx : Ctx) (fid : Nat) (as : List V) (x : V) (b : Bool) (hs : fromTo i n = i :: fromTo (i + 1) n) (hd : decCallG N ops T i = some (ctx, fid, as)) (hb : gB T ctx = b) (hc : b = true → Fine P fid as x)
    (h : ∀ H', HExt H H' → RWs P tt N ops (fromTo (i + 1) n) (T.setO (dstAt ops i) (ctx, x)) H' K) : RWs P tt N ops (fromTo i n) T H K := by
  unfold decCallG at hd
  split at hd
  · rename_i ctx' f args tys hp
    split at hd
    · rename_i ys cs xs hf hx
      simp at hd; obtain ⟨rfl, rfl, rfl⟩ := hd
      refine R_effG (y := x) hs hp (fun hg => ?_) (fun _ => h H (HExt.refl H))
      refine ⟨_, xs, ys, cs, hf, hx, ?_⟩
      have := hc (hb ▸ hg) H
      simp only [List.append_assoc] at this ⊢
      refine this.mono ?_
      rintro r H' ⟨rfl, hx⟩
      exact h H' hx
    · simp at hd
  · simp at hd

def decLoad (tt : TT) (N : Nat) (ops : Array Oper) (T : Env) (i : Nat) (y : V) : Option (Ctx × Nat × Nat × V) := match condAt N ops T i with
  | some (ctx, .load t x) => match evalO T ctx x with
    | some (.lp l ix o) => match tt t, loadV tt t y o with
      | some _, some v => some (ctx, l, ix, v)
      | _, _ => none
    | _ => none
  | _ => none

/-- A load from what is own. -/
theorem R_load (ctx : Ctx) (lo ix : Nat) (y x : V) (hs : fromTo i n = i :: fromTo (i + 1) n) (hd : decLoad tt N ops T i y = some (ctx, lo, ix, x)) {k : Nat} {es : List V} (hl : H[lo]? = some (.vec k es)) (hy : gB T ctx = true → es[ix]? = some y)
    (h : RWs P tt N ops (fromTo (i + 1) n) (T.setO (dstAt ops i) (ctx, x)) H K) : RWs P tt N ops (fromTo i n) T H K := by
  unfold decLoad at hd
  split at hd
  · rename_i ctx' t p hp
    split at hd
    · rename_i l ix' o he
      split at hd
      · rename_i e v ht hv
        simp at hd; obtain ⟨rfl, rfl, rfl, rfl⟩ := hd
        exact R_effG (y := v) hs hp (fun hg => ⟨_, _, _, _, _, _, _, _, he, hl, hy hg, ht, hv, h⟩) (fun _ => h)
      · simp at hd
    · simp at hd
  · simp at hd

def decStore (tt : TT) (N : Nat) (ops : Array Oper) (T : Env) (i : Nat) (y : V) : Option (Nat × Nat × V) := match plainAt N ops i with
  | some (.store t p x) => match evalO T [] p, evalO T [] x, tt t with
    | some (.lp l ix o), some v, some e => match szOk v e.size, storeV y o v with
      | true, some y' => some (l, ix, y')
      | _, _ => none
    | _, _, _ => none
  | _ => none

/-- A store into what is own. -/
theorem R_store (lo ix : Nat) (y y' : V) (hs : fromTo i n = i :: fromTo (i + 1) n) (hn : dstAt ops i = none) (hd : decStore tt N ops T i y = some (lo, ix, y')) {k : Nat} {es : List V} (hl : H[lo]? = some (.vec k es)) (hy : es[ix]? = some y)
    (h : RWs P tt N ops (fromTo (i + 1) n) T (H.set lo (.vec k (es.set ix y'))) K) : RWs P tt N ops (fromTo i n) T H K := by
  unfold decStore at hd
  split at hd
  · rename_i t p x hp
    split at hd
    · rename_i l ix' o v e hep hex ht
      split at hd
      · rename_i y'' hz hv
        simp at hd; obtain ⟨rfl, rfl, rfl⟩ := hd
        refine R_eff hs hp ?_
        rw [hn]
        exact ⟨_, _, _, _, _, _, _, _, _, hep, hex, hl, hy, ht, hz, hv, h⟩
      · simp at hd
    · simp at hd
  · simp at hd

def decAlloc (tt : TT) (N : Nat) (ops : Array Oper) (T : Env) (i : Nat) : Option (Nat × V) := match plainAt N ops i with
  | some (.alloc t) => match tt t with
    | some e => match noTup e.zero with
      | true => some (e.zero.cells.length, e.zero)
      | false => none
    | none => none
  | some (.box _ x) => match evalO T [] x with
    | some v => match noTup v with
      | true => some (v.cells.length, v)
      | false => none
    | none => none
  | _ => none

/-- A place of one's own. -/
theorem R_alloc (k : Nat) (z : V) (hs : fromTo i n = i :: fromTo (i + 1) n) (hd : decAlloc tt N ops T i = some (k, z))
    (h : RWs P tt N ops (fromTo (i + 1) n) (T.setO (dstAt ops i) ([], .lp H.length 0 0)) (H ++ [.vec k [z]]) K) : RWs P tt N ops (fromTo i n) T H K := by
  unfold decAlloc at hd
  split at hd
  · rename_i t hp
    split at hd
    · rename_i e ht
      split at hd
      · rename_i hz
        simp at hd; obtain ⟨rfl, rfl⟩ := hd
        exact R_eff hs hp ⟨e, ht, hz, h⟩
      · simp at hd
    · simp at hd
  · rename_i t x hp
    split at hd
    · rename_i v hv
      split at hd
      · rename_i hz
        simp at hd; obtain ⟨rfl, rfl⟩ := hd
        exact R_eff hs hp ⟨v, hv, hz, h⟩
      · simp at hd
    · simp at hd
  · simp at hd

/-- The same, over what is own. -/
theorem R_allocO {H0 : Frame} {L : List (Nat × Nat × List V)} (k : Nat) (z : V) (hs : fromTo i n = i :: fromTo (i + 1) n) (hd : decAlloc tt N ops T i = some (k, z)) (hO : Owns H0 H L)
    (h : ∀ lo H', Owns H0 H' (L ++ [(lo, k, [z])]) → RWs P tt N ops (fromTo (i + 1) n) (T.setO (dstAt ops i) ([], .lp lo 0 0)) H' K) : RWs P tt N ops (fromTo i n) T H K :=
  R_alloc k z hs hd (h _ _ (hO.new k [z]))

theorem R_loadO {H0 : Frame} {L : List (Nat × Nat × List V)} (ctx : Ctx) (q lo k ix : Nat) (y x : V) (es : List V) (hs : fromTo i n = i :: fromTo (i + 1) n) (hd : decLoad tt N ops T i y = some (ctx, lo, ix, x)) (hO : Owns H0 H L) (hL : L[q]? = some (lo, k, es))
    (b : Bool) (hb : gB T ctx = b) (hy : b = true → es[ix]? = some y)
    (h : RWs P tt N ops (fromTo (i + 1) n) (T.setO (dstAt ops i) (ctx, x)) H K) : RWs P tt N ops (fromTo i n) T H K :=
  R_load ctx lo ix y x hs hd (hO.at q hL) (fun h => hy (hb ▸ h)) h

theorem R_storeO {H0 : Frame} {L : List (Nat × Nat × List V)} (q lo k ix : Nat) (y y' : V) (es : List V) (hs : fromTo i n = i :: fromTo (i + 1) n) (hn : dstAt ops i = none) (hd : decStore tt N ops T i y = some (lo, ix, y')) (hO : Owns H0 H L) (hL : L[q]? = some (lo, k, es))
    (hy : es[ix]? = some y) (h : ∀ H', Owns H0 H' (L.set q (lo, k, es.set ix y')) → RWs P tt N ops (fromTo (i + 1) n) T H' K) : RWs P tt N ops (fromTo i n) T H K :=
  R_store lo ix y y' hs hn hd (hO.at q hL) hy (h _ (hO.put q hL _))

theorem R_callO {H0 : Frame} {L : List (Nat × Nat × List V)} (ctx : Ctx) (fid : Nat) (as : List V) (x : V) (b : Bool) (hs : fromTo i n = i :: fromTo (i + 1) n) (hd : decCallG N ops T i = some (ctx, fid, as)) (hb : gB T ctx = b) (hc : b = true → Fine P fid as x) (hO : Owns H0 H L)
    (h : ∀ H', Owns H0 H' L → RWs P tt N ops (fromTo (i + 1) n) (T.setO (dstAt ops i) (ctx, x)) H' K) : RWs P tt N ops (fromTo i n) T H K :=
  R_callG ctx fid as x b hs hd hb hc fun H' hx => h H' (hO.call hx)

/-- An append to an own slice. -/
theorem R_appO {H0 : Frame} {L : List (Nat × Nat × List V)} (q lo m : Nat) (te : TyE) (es ys : List V) (x : V) (hs : fromTo i n = i :: fromTo (i + 1) n) (hd : decApp tt N ops T i = some (.msl te.size lo 0 m, x, te)) (hO : Owns H0 H L) (hL : L[q]? = some (lo, te.size, es)) (hm : m = es.length) (hy : appX te.size H x = some ys)
    (hb : (es.length + ys.length) * te.bytes ≤ 140737488355328) (h63 : es.length + ys.length ≤ 9223372036854775807)
    (h : ∀ lo' H', Owns H0 H' (L.set q (lo', te.size, es ++ ys)) → RWs P tt N ops (fromTo (i + 1) n) (T.setO (dstAt ops i) ([], .msl te.size lo' 0 (es.length + ys.length))) H' K) : RWs P tt N ops (fromTo i n) T H K := by
  subst hm
  exact R_append hs hd (by simp [appS, hO.at q hL]) hy hb h63 (h _ _ (hO.app q hL _))

/-- An append to a slice of no room. -/
theorem R_appN {H0 : Frame} {L : List (Nat × Nat × List V)} (te : TyE) (ys : List V) (el : Nat → V) (x : V) (hs : fromTo i n = i :: fromTo (i + 1) n) (hd : decApp tt N ops T i = some (.sl true 0 el, x, te)) (hO : Owns H0 H L) (hy : appX te.size H x = some ys)
    (hb : ys.length * te.bytes ≤ 140737488355328) (h63 : ys.length ≤ 9223372036854775807)
    (h : ∀ lo' H', Owns H0 H' (L ++ [(lo', te.size, ys)]) → RWs P tt N ops (fromTo (i + 1) n) (T.setO (dstAt ops i) ([], .msl te.size lo' 0 ys.length)) H' K) : RWs P tt N ops (fromTo i n) T H K := by
  refine R_append (es := []) hs hd rfl hy (by simpa using hb) (by simpa using h63) ?_
  have := h _ _ (hO.new te.size ys)
  simpa [appH] using this

end rules

/-- What is built is frozen, among what is own. -/
theorem C_freezeO {H0 : Frame} {L L' : List (Nat × Nat × List V)} {α : Type} [Inhabited α] {e : α → V} (xs : List α) {c : Code} {l : List (Nat × V)} (i q : Nat) (t k lo n : Nat) (hO : Owns H0 H L) (hi : l[i]? = some (t, .msl k lo 0 n)) (hL : L[q]? = some (lo, k, xs.map e)) (hn : n = xs.length)
    (hl : L' = L.eraseIdx q) (next : ∀ H', Owns H0 H' L' → AWP P ro N c (Env.ofL (l.set i (t, eL e xs))) H' ds Q) : AWP P ro N c (Env.ofL l) H ds Q :=
  C_freezeL i hi (hO.at q hL) hn (next _ (hO.kill q hL hl))

/-- What is of no room is own. -/
theorem C_ownO {H0 : Frame} {L : List (Nat × Nat × List V)} {c : Code} {l : List (Nat × V)} (i t k : Nat) {el : Nat → V} (hO : Owns H0 H L) (hi : l[i]? = some (t, .sl true 0 el))
    (next : ∀ lo H', Owns H0 H' (L ++ [(lo, k, [])]) → AWP P ro N c (Env.ofL (l.set i (t, .msl k lo 0 0))) H' ds Q) : AWP P ro N c (Env.ofL l) H ds Q :=
  C_own i hi (next _ _ (hO.new k []))

/-! ### Ghosts -/

theorem Ghost.freeze {t k lo n : Nat} {es : List V} {n' : Nat} {el : Nat → V} (ht : T t = some ([], .msl k lo 0 n)) (hl : H[lo]? = some (.vec k es)) (hn : n = es.length) (hn' : n' = es.length)
    (he : ∀ j, j < es.length → es.getD j .bad = el j) : Ghost N T H (T.set t ([], .sl false n' el)) (H.set lo .dead) := by
  subst hn; subst hn'
  intro g w a ds hg
  obtain ⟨s1, s2, s3⟩ := hg.sr.freeze hl
  refine ⟨_, hg.step s2 s1 ?_ rfl rfl, s2⟩
  have htr := hg.tr.ext s2
  intro u c' x hu
  simp only [Env.set] at hu
  split at hu
  · rename_i hb
    have := Nat.eq_of_beq_eq_true hb
    subst this
    simp at hu; obtain ⟨rfl, rfl⟩ := hu
    obtain ⟨v, hv, hrep⟩ := (hg.tr u [] _ ht).1 (by simp [ctxOk])
    exact ⟨fun _ => ⟨v, hv, (s3 v hrep).slCongr he⟩, fun hnc => absurd (by simp [ctxOk]) hnc⟩
  · split at hu
    · rename_i y hy
      split at hu
      · cases hu
      · simp at hu; subst hu
        exact htr u c' x hy
    · cases hu

theorem R_ghost {ops : Array Oper} {K : Env → Heap → Prop} {is : List Nat} {T' : Env} {H' : Heap} (hne : is ≠ []) (hg : Ghost N T H T' H') (h : RWs P tt N ops is T' H' K) : RWs P tt N ops is T H K := by
  cases is with
  | nil => exact absurd rfl hne
  | cons i is =>
    obtain ⟨T1, H1, hg1, hr⟩ := h
    refine ⟨T1, H1, fun g w a ds hgd => ?_, hr⟩
    obtain ⟨g1, a1, a2⟩ := hg g w a ds hgd
    obtain ⟨g2, b1, b2⟩ := hg1 g1 w a ds a1
    exact ⟨g2, b1, a2.trans b2⟩

/-- What is built is frozen in the midst of a region. -/
theorem R_freezeO {ops : Array Oper} {K : Env → Heap → Prop} {i n : Nat} {H0 : Frame} {L : List (Nat × Nat × List V)} {α : Type} [Inhabited α] {e : α → V} (xs : List α) (q t k lo m : Nat) (L' : List (Nat × Nat × List V)) (hs : fromTo i n = i :: fromTo (i + 1) n) (hO : Owns H0 H L) (ht : T t = some ([], .msl k lo 0 m))
    (hL : L[q]? = some (lo, k, xs.map e)) (hm : m = xs.length) (hl : L' = L.eraseIdx q) (h : ∀ H', Owns H0 H' L' → RWs P tt N ops (fromTo i n) (T.set t ([], eL e xs)) H' K) : RWs P tt N ops (fromTo i n) T H K :=
  R_ghost (by rw [hs]; simp) (Ghost.freeze ht (hO.at q hL) (by simpa using hm) (n' := xs.length) (by simp) (fun j hj => by
    have hj' : j < xs.length := by simpa using hj
    simp [List.getD_eq_getElem?_getD, hj'])) (h _ (hO.kill q hL hl))

/-! ### What is kept -/

/-- What the places hold, at the least. -/
def Has (T : Env) (l : List (Nat × V)) : Prop := ∃ l0 : List (Nat × V), l0.map (fun p => T p.1) = l0.map (fun p => some ([], p.2)) ∧ l0.map (·.1) = l.map (·.1) ∧ SubVs (l0.map (·.2)) (l.map (·.2))

theorem Has.eq {l : List (Nat × V)} (h : l.map (fun p => T p.1) = l.map (fun p => some ([], p.2))) : Has T l := ⟨l, h, rfl, SubVs.refl _⟩
theorem Has.ofL (l : List (Nat × V)) (hn : (l.map (·.1)).Nodup) : Has (Env.ofL l) l := by
  refine .eq ?_
  induction l with
  | nil => rfl
  | cons p r ih =>
    simp only [List.map_cons, List.nodup_cons] at hn ⊢
    congr 1
    · simp [Env.ofL, Nat.beq_refl]
    · have := ih hn.2
      rw [← this]
      apply List.map_congr_left
      intro q hq
      simp only [Env.ofL]
      split
      · rename_i hb
        exact absurd (List.mem_map.2 ⟨q, hq, Nat.eq_of_beq_eq_true hb⟩) hn.1
      · rfl

theorem C_has {c : Code} {l : List (Nat × V)} (h : Has T l) (next : AWP P ro N c (Env.ofL l) H ds Q) : AWP P ro N c T H ds Q := by
  obtain ⟨l0, h1, h2, h3⟩ := h
  exact C_keep l0 h1 (C_weak l0 l h2 h3 next)

/-- The end of a branch: what holds may be told in another way. -/
def Cl (N : Nat) (Q : Exit → Env → Heap → List Nat → Prop) (e : Exit) (T : Env) (H : Heap) (ds : List Nat) : Prop := ∀ g w a, Good N g w T H ds a → ∃ g' T' H', Good N g' w T' H' ds a ∧ Ext g w g' w ∧ Q e T' H' ds

theorem A_cl {c : Code} (h : AWP P ro N c T H ds (Cl N Q)) : AWP P ro N c T H ds Q := by
  intro g w a R hg hr
  refine h g w a R hg ?_
  intro e T' H' ds' g' w' a' q hg' hx
  obtain ⟨g2, T2, H2, hg2, hx2, hq⟩ := q g' w' a' hg'
  exact hr _ _ _ _ _ _ _ hq hg2 (hx.trans hx2)

theorem A_ghost {c : Code} {T' : Env} {H' : Heap} (hg : Ghost N T H T' H') (h : AWP P ro N c T' H' ds Q) : AWP P ro N c T H ds Q := by
  intro g w a R hgd hr
  obtain ⟨g1, a1, a2⟩ := hg g w a ds hgd
  exact h g1 w a R a1 fun e T2 H2 ds2 g2 w2 a2' q2 hg2 hx2 => hr e T2 H2 ds2 g2 w2 a2' q2 hg2 (a2.trans hx2)

theorem E_ghost {e : Exit} {T' : Env} {H' : Heap} (hg : Ghost N T H T' H') (h : Cl N Q e T' H' ds) : Cl N Q e T H ds := by
  intro g w a hgd
  obtain ⟨g1, a1, a2⟩ := hg g w a ds hgd
  obtain ⟨g2, T2, H2, b1, b2, b3⟩ := h g1 w a a1
  exact ⟨g2, T2, H2, b1, a2.trans b2, b3⟩

theorem E_done {e : Exit} (h : Q e T H ds) : Cl N Q e T H ds := fun g w _ hg => ⟨g, T, H, hg, Ext.refl g w, h⟩

theorem Ghost.sub {T' : Env} (h : SubE T' T) : Ghost N T H T' H := fun g w _ _ hg => ⟨g, ⟨hg.sr, fun t c x ht => hg.tr t c x (h t _ ht), hg.df, hg.dl, hg.sz⟩, Ext.refl g w⟩

theorem Ghost.trans {T' T'' : Env} {H' H'' : Heap} (h : Ghost N T H T' H') (h' : Ghost N T' H' T'' H'') : Ghost N T H T'' H'' := fun g w a ds hg => by
  obtain ⟨g1, a1, a2⟩ := h g w a ds hg
  obtain ⟨g2, b1, b2⟩ := h' g1 w a ds a1
  exact ⟨g2, b1, a2.trans b2⟩

theorem Ghost.weak {l l' : List (Nat × V)} (hk : l.map (·.1) = l'.map (·.1)) (hs : SubVs (l.map (·.2)) (l'.map (·.2))) : Ghost N (Env.ofL l) H (Env.ofL l') H := fun g w a ds hg => by
  refine ⟨g, ⟨hg.sr, ?_, hg.df, hg.dl, hg.sz⟩, Ext.refl g w⟩
  intro t c' x ht
  obtain ⟨rfl, x0, h0, hsub⟩ := ofL_weak hk hs ht
  obtain ⟨v, hv, hrep⟩ := (hg.tr t [] x0 h0).1 (by simp [ctxOk])
  exact ⟨fun _ => ⟨v, hv, hsub g w v hrep⟩, fun h => absurd (by simp [ctxOk]) h⟩

theorem Has.ghost {l : List (Nat × V)} (h : Has T l) : Ghost N T H (Env.ofL l) H := by
  obtain ⟨l0, h1, h2, h3⟩ := h
  exact (Ghost.sub (ofL_sub h1)).trans (Ghost.weak h2 h3)

theorem Ghost.own {l : List (Nat × V)} {i t k : Nat} {el : Nat → V} (hi : l[i]? = some (t, .sl true 0 el)) : Ghost N (Env.ofL l) H (Env.ofL (l.set i (t, .msl k H.length 0 0))) (H ++ [.vec k []]) := by
  intro g w a ds hg
  have hm := hg.sr.more (b := w.heap.size) (o := 0) (k := k) (cap := 0) (xs := []) (by simp) (by simp) (fun _ => undef) (by simp) (by simp) (fun _ _ _ _ _ _ _ hj => by simp at hj)
  have hx : Ext g w (g.more w.heap.size 0 k 0) w := (Ext.refl g w).more (.inl (Nat.le_refl _))
  refine ⟨_, hg.step hx hm ?_ rfl rfl, hx⟩
  have htr := hg.tr.ext hx
  intro u c' x hu
  rcases ofL_set hi hu with h | ⟨rfl, rfl, h⟩
  · exact htr u c' x h
  · obtain ⟨v, hv, hrep⟩ := (hg.tr u [] _ h).1 (by simp [ctxOk])
    obtain ⟨a0, cap, rfl, hn, hz⟩ := hrep.slE
    have hc0 := hz rfl
    subst hc0
    refine ⟨fun _ => ⟨_, hv, ?_⟩, fun hnc => absurd (by simp [ctxOk]) hnc⟩
    have := Rep.msl0 (g := g.more w.heap.size 0 k 0) (w := w) g.n 0 a0 (Nat.lt_succ_self _) (by simp [Gh.more, upd_same])
    rw [hg.sr.len]
    simpa [Gh.more, upd_same] using this

theorem Ghost.freezeL {α : Type} [Inhabited α] {e : α → V} {xs : List α} {l : List (Nat × V)} {i t k lo n : Nat} (hi : l[i]? = some (t, .msl k lo 0 n)) (hl : H[lo]? = some (.vec k (xs.map e))) (hn : n = xs.length) :
    Ghost N (Env.ofL l) H (Env.ofL (l.set i (t, eL e xs))) (H.set lo .dead) := by
  subst hn
  intro g w a ds hg
  obtain ⟨s1, s2, s3⟩ := hg.sr.freeze hl
  refine ⟨_, hg.step s2 s1 ?_ rfl rfl, s2⟩
  have htr := hg.tr.ext s2
  intro u c' x hu
  rcases ofL_set hi hu with h | ⟨rfl, rfl, h⟩
  · exact htr u c' x h
  · obtain ⟨v, hv, hrep⟩ := (hg.tr u [] _ h).1 (by simp [ctxOk])
    have h3 := s3 v (by simpa using hrep)
    refine ⟨fun _ => ⟨v, hv, ?_⟩, fun hnc => absurd (by simp [ctxOk]) hnc⟩
    have := h3.slCongr (el' := fun i => e (xs.getD i default)) fun j hj => by
      have hj' : j < xs.length := by simpa using hj
      simp [List.getD_eq_getElem?_getD, hj']
    simpa [eL] using this

/-- The end of a branch: what is kept. -/
theorem E_has {e : Exit} {l : List (Nat × V)} (h : Has T l) (next : Cl N Q e (Env.ofL l) H ds) : Cl N Q e T H ds := E_ghost h.ghost next

theorem E_freezeO {e : Exit} {H0 : Frame} {L L' : List (Nat × Nat × List V)} {α : Type} [Inhabited α] {en : α → V} (xs : List α) {l : List (Nat × V)} (i q : Nat) (t k lo n : Nat) (hO : Owns H0 H L) (hi : l[i]? = some (t, .msl k lo 0 n)) (hL : L[q]? = some (lo, k, xs.map en)) (hn : n = xs.length)
    (hl : L' = L.eraseIdx q) (next : ∀ H', Owns H0 H' L' → Cl N Q e (Env.ofL (l.set i (t, eL en xs))) H' ds) : Cl N Q e (Env.ofL l) H ds :=
  E_ghost (Ghost.freezeL hi (hO.at q hL) hn) (next _ (hO.kill q hL hl))

theorem E_ownO {e : Exit} {H0 : Frame} {L : List (Nat × Nat × List V)} {l : List (Nat × V)} (i t k : Nat) {el : Nat → V} (hO : Owns H0 H L) (hi : l[i]? = some (t, .sl true 0 el))
    (next : ∀ lo H', Owns H0 H' (L ++ [(lo, k, [])]) → Cl N Q e (Env.ofL (l.set i (t, .msl k lo 0 0))) H' ds) : Cl N Q e (Env.ofL l) H ds :=
  E_ghost (Ghost.own hi) (next _ _ (hO.new k []))

/-! ### What the printed functions are made of -/

open Classical in
/-- On, if it is so. -/
noncomputable def asrt {α : Type} (c : Prop) (k : Option α) : Option α := if c then k else none

theorem asrtE {α : Type} {c : Prop} {k : Option α} {r : α} (h : asrt c k = some r) : c ∧ k = some r := by
  unfold asrt at h
  split at h
  · rename_i hc; exact ⟨hc, h⟩
  · cases h

theorem asrt_pos {α : Type} {c : Prop} {k : Option α} (h : c) : asrt c k = k := by unfold asrt; rw [if_pos h]

theorem bindE {α β : Type} {a : Option α} {f : α → Option β} {r : β} (h : a.bind f = some r) : ∃ x, a = some x ∧ f x = some r := by
  cases a with
  | none => cases h
  | some x => exact ⟨x, rfl, h⟩

theorem condT {α : Type} {b : Bool} {x y : α} {z : α} (hb : b = true) (h : cond b x y = z) : x = z := by subst hb; exact h
theorem condF {α : Type} {b : Bool} {x y : α} {z : α} (hb : b = false) (h : cond b x y = z) : y = z := by subst hb; exact h

/-- A call that is not always made. -/
def gcall {α : Type} [Inhabited α] (b : Bool) (k : Option α) : Option α := cond b k (some default)

theorem gcallE {α : Type} [Inhabited α] {b : Bool} {k : Option α} {r : α} (h : gcall b k = some r) : b = true → k = some r := by
  intro hb; subst hb; exact h

end Go.Abs
