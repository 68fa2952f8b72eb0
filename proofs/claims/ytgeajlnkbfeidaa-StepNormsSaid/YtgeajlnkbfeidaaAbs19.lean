/- The rules as the printed walks use them. -/
import Derived.Test.YtgeajlnkbfeidaaAbs18
namespace Go.Abs
open Go Go.RowKit

variable {P : Program} {tt : TT} {ro : Option Nat} {N : Nat} {T : Env} {H : Heap} {ds : List Nat} {Q : Exit → Env → Heap → List Nat → Prop}

theorem Fine.sub {f : FuncId} {as as' : List V} {r : V} (h : Fine P f as' r) (hs : SubVs as as') : Fine P f as r := fun H => (h H).sub hs

/-- On by a claim. -/
theorem C_cut {c : Code} (J : Env → Heap → Prop) (hJ : ∀ T H, J T H → AWP P ro N c T H [] Q) (h : J T H) : AWP P ro N c T H [] Q := hJ T H h

theorem subLit {α : Type} [Inhabited α] {e : α → V} : ∀ {l : List α}, SubV (frozenOf (l.map e)) (eL e l)
  | [] => subNil
  | x :: r => subSl (by simp) (fun i hi => by
      have hi' : i < (x :: r).length := by simpa using hi
      show (List.map e (x :: r)).getD i .bad = _
      simp only [List.getD_eq_getElem?_getD, List.getElem?_map, List.getElem?_eq_getElem hi']
      rfl)

theorem ownGet {α : Type} [Inhabited α] {e : α → V} {xs : List α} {j : Int} (h : 0 ≤ j ∧ j < (xs.length : Int)) : (xs.map e)[0 + j.toNat]? = some (e (xs.getD j.toNat default)) := by
  have : j.toNat < xs.length := by omega
  simp [List.getD_eq_getElem?_getD, this]

theorem ownGetN {α : Type} [Inhabited α] {e : α → V} {xs : List α} {j : Int} {n : Nat} (h : 0 ≤ j ∧ j < (n : Int)) (hn : n = xs.length) : (xs.map e)[0 + j.toNat]? = some (e (xs.getD j.toNat default)) := by
  subst hn; exact ownGet h

theorem ownSet {α : Type} {e : α → V} {xs : List α} {i : Nat} {v : α} : (xs.map e).set (0 + i) (e v) = (xs.set i v).map e := by
  simp [List.map_set]

theorem R_storeOL {ops : Array Oper} {K : Env → Heap → Prop} {i n : Nat} {H0 : Frame} {L : List (Nat × Nat × List V)} (q lo k ix : Nat) (y y' : V) (es : List V) (L' : List (Nat × Nat × List V)) (hs : fromTo i n = i :: fromTo (i + 1) n) (hn : dstAt ops i = none) (hd : decStore tt N ops T i y = some (lo, ix, y')) (hO : Owns H0 H L) (hL : L[q]? = some (lo, k, es))
    (hy : es[ix]? = some y) (hl : L' = L.set q (lo, k, es.set ix y')) (h : ∀ H', Owns H0 H' L' → RWs P tt N ops (fromTo (i + 1) n) T H' K) : RWs P tt N ops (fromTo i n) T H K :=
  R_storeO q lo k ix y y' es hs hn hd hO hL hy (hl ▸ h)

open Classical in
/-- What a function that calls itself comes to, if it comes to an end. -/
noncomputable def fixN {α : Type} (g : Nat → Option α) : Option α := if h : ∃ k r, g k = some r then g (Classical.choose h) else none

theorem fixN_some {α : Type} {g : Nat → Option α} {r : α} (h : fixN g = some r) : ∃ k, g k = some r := by
  unfold fixN at h
  split at h
  · exact ⟨_, h⟩
  · cases h

theorem fixN_of {α : Type} {g : Nat → Option α} {r : α} (he : ∃ k, g k = some r) (hu : ∀ k r', g k = some r' → r' = r) : fixN g = some r := by
  unfold fixN
  have hex : ∃ k r, g k = some r := let ⟨k, hk⟩ := he; ⟨k, r, hk⟩
  rw [dif_pos hex]
  obtain ⟨r', hr'⟩ := Classical.choose_spec hex
  rw [hr', hu _ _ hr']

/-! ### What is appended -/

theorem range_map_getD {α : Type} [Inhabited α] {e : α → V} {zs : List α} : (List.range zs.length).map (fun i => e (zs.getD i default)) = zs.map e := by
  apply List.ext_getElem
  · simp
  · intro i h1 h2
    have : i < zs.length := by simpa using h2
    simp [List.getD_eq_getElem?_getD, this]

theorem appX_eL {α : Type} [Inhabited α] {e : α → V} {zs : List α} {k : Nat} (hz : ∀ a, szOk (e a) k = true) : appX k H (eL e zs) = some (zs.map e) := by
  unfold appX eL
  simp only [hz]
  rw [range_map_getD]

theorem appX_drop {α : Type} [Inhabited α] {e : α → V} {l : List α} {a k : Nat} (hz : ∀ a, szOk (e a) k = true) : appX k H (.sl false (l.length - a) (fun i => e (l.getD (a + i) default))) = some ((l.drop a).map e) := by
  unfold appX
  simp only [hz]
  rw [← range_map_getD (zs := l.drop a), List.length_drop]
  simp [List.getD_eq_getElem?_getD, List.getElem?_drop]

theorem appX_take {α : Type} [Inhabited α] {e : α → V} {l : List α} {b k : Nat} (hb : b ≤ l.length) (hz : ∀ a, szOk (e a) k = true) : appX k H (.sl false b (fun i => e (l.getD i default))) = some ((l.take b).map e) := by
  unfold appX
  simp only [hz]
  rw [← range_map_getD (zs := l.take b), List.length_take, Nat.min_eq_left hb]
  congr 1
  apply List.map_congr_left
  intro i hi
  have : i < b := by simpa using hi
  simp [List.getD_eq_getElem?_getD, List.getElem?_take, this]

theorem appX_own {α : Type} {e : α → V} {H0 : Frame} {L : List (Nat × Nat × List V)} {es : List α} {k lo n : Nat} (hO : Owns H0 H L) (q : Nat) (hL : L[q]? = some (lo, k, es.map e)) (hn : n = es.length) : appX k H (.msl k lo 0 n) = some (es.map e) := by
  subst hn
  have : es.length.ble es.length = true := Nat.ble_eq_true_of_le (Nat.le_refl _)
  simp only [appX, hO.at q hL, Nat.zero_add, List.length_map, this, Nat.beq_refl, Bool.and_self, List.drop_zero]
  simp [List.take_of_length_le]

def decApp4 (tt : TT) (N : Nat) (ops : Array Oper) (T : Env) (i : Nat) : Option (V × V × Nat × Nat) := match decApp tt N ops T i with
  | some (s, x, te) => some (s, x, te.size, te.bytes)
  | none => none

theorem decApp4_spec {ops : Array Oper} {i : Nat} {s x : V} {k bytes : Nat} (h : decApp4 tt N ops T i = some (s, x, k, bytes)) : ∃ te, decApp tt N ops T i = some (s, x, te) ∧ te.size = k ∧ te.bytes = bytes := by
  unfold decApp4 at h
  split at h
  · rename_i s' x' te hd
    simp at h; obtain ⟨rfl, rfl, rfl, rfl⟩ := h
    exact ⟨te, hd, rfl, rfl⟩
  · cases h

section rules
variable {ops : Array Oper} {K : Env → Heap → Prop} {i n : Nat}

/-- An append to an own slice. -/
theorem R_appOL {H0 : Frame} {L : List (Nat × Nat × List V)} {α : Type} {e : α → V} (xs zs : List α) (q lo k bytes : Nat) (x : V) (L' : Nat → List (Nat × Nat × List V)) (hs : fromTo i n = i :: fromTo (i + 1) n) (hd : decApp4 tt N ops T i = some (.msl k lo 0 xs.length, x, k, bytes)) (hO : Owns H0 H L) (hL : L[q]? = some (lo, k, xs.map e))
    (hy : appX k H x = some (zs.map e)) (hb : (xs.length + zs.length) * bytes ≤ 140737488355328 ∧ xs.length + zs.length ≤ 9223372036854775807) (hl : ∀ lo', L' lo' = L.set q (lo', k, (xs ++ zs).map e))
    (h : ∀ lo' H', Owns H0 H' (L' lo') → RWs P tt N ops (fromTo (i + 1) n) (T.setO (dstAt ops i) ([], .msl k lo' 0 (xs ++ zs).length)) H' K) : RWs P tt N ops (fromTo i n) T H K := by
  obtain ⟨te, hd', rfl, rfl⟩ := decApp4_spec hd
  refine R_appO q lo xs.length te _ _ x hs hd' hO hL (by simp) hy (by simpa using hb.1) (by simpa using hb.2) fun lo' H' hO' => ?_
  have := h lo' H' (by rw [hl, List.map_append]; exact hO')
  simpa using this

theorem R_appNL {H0 : Frame} {L : List (Nat × Nat × List V)} {α : Type} {e : α → V} (zs : List α) (el : Nat → V) (k bytes : Nat) (x : V) (L' : Nat → List (Nat × Nat × List V)) (hs : fromTo i n = i :: fromTo (i + 1) n) (hd : decApp4 tt N ops T i = some (.sl true 0 el, x, k, bytes)) (hO : Owns H0 H L)
    (hy : appX k H x = some (zs.map e)) (hb : zs.length * bytes ≤ 140737488355328 ∧ zs.length ≤ 9223372036854775807) (hl : ∀ lo', L' lo' = L ++ [(lo', k, zs.map e)])
    (h : ∀ lo' H', Owns H0 H' (L' lo') → RWs P tt N ops (fromTo (i + 1) n) (T.setO (dstAt ops i) ([], .msl k lo' 0 zs.length)) H' K) : RWs P tt N ops (fromTo i n) T H K := by
  obtain ⟨te, hd', rfl, rfl⟩ := decApp4_spec hd
  refine R_appN te _ el x hs hd' hO hy (by simpa using hb.1) (by simpa using hb.2) fun lo' H' hO' => ?_
  have := h lo' H' (by rw [hl]; exact hO')
  simpa using this

end rules

/-- A call's contract, where it works in a slice that it is given. -/
def FineI (P : Program) (f : FuncId) (lo k : Nat) (es es' : List V) (args : List V) (r : V) : Prop := ∀ H, H[lo]? = some (.vec k es) → ACall P f args H fun x H' => x = r ∧ FExt ⟨H, [lo]⟩ H' ∧ H'[lo]? = some (.vec k es') ∧ es'.length = es.length

theorem FineI.sub {f : FuncId} {lo k : Nat} {es es' : List V} {as as' : List V} {r : V} (h : FineI P f lo k es es' as' r) (hs : SubVs as as') : FineI P f lo k es es' as r := fun H hl => (h H hl).sub hs

theorem R_callI {ops : Array Oper} {K : Env → Heap → Prop} {i n : Nat} {H0 : Frame} {L L' : List (Nat × Nat × List V)} (q lo k : Nat) (es es' : List V) (fid : Nat) (as : List V) (x : V) (hs : fromTo i n = i :: fromTo (i + 1) n) (hd : decCall N ops T i = some (fid, as)) (hc : FineI P fid lo k es es' as x) (hO : Owns H0 H L)
    (hq : L[q]? = some (lo, k, es)) (hl : L' = L.set q (lo, k, es')) (h : ∀ H', Owns H0 H' L' → es'.length = es.length → RWs P tt N ops (fromTo (i + 1) n) (T.setO (dstAt ops i) ([], x)) H' K) : RWs P tt N ops (fromTo i n) T H K :=
  R_call hs hd (hc H (hO.at q hq)) fun _ H' ⟨e, hx, hl', hlen⟩ => e ▸ h H' (hl ▸ hO.callI q hq hx hl') hlen

/-- A call's contract, where it hands back a slice of its own. -/
def FineO (P : Program) (f : FuncId) (args : List V) (r : Nat → V) (k : Nat) (es : List V) : Prop := ∀ H, ACall P f args H fun x H' => ∃ lo, x = r lo ∧ Owns ⟨H, []⟩ H' [(lo, k, es)]

theorem FineO.sub {f : FuncId} {as as' : List V} {r : Nat → V} {k : Nat} {es : List V} (h : FineO P f as' r k es) (hs : SubVs as as') : FineO P f as r k es := fun H => (h H).sub hs

theorem Owns.join {H0 : Frame} {H H' : Heap} {L : List (Nat × Nat × List V)} {p : Nat × Nat × List V} (h : Owns H0 H L) (h' : Owns ⟨H, []⟩ H' [p]) : Owns H0 H' (L ++ [p]) := by
  have hc := h.call h'.out
  have hp : H.length ≤ p.1 := by
    rcases (h'.mem 0 p.1 p.2.1 p.2.2 rfl).1 with h | h
    · exact h
    · simp at h
  refine ⟨hc.ext, fun i j a b hi hj hij => ?_, fun i lo k es hi => ?_⟩
  · rcases get_snoc hi with ⟨_, hi⟩ | ⟨e1, e2⟩ <;> rcases get_snoc hj with ⟨_, hj⟩ | ⟨e3, e4⟩
    · exact h.ne i j a b hi hj hij
    · have := h.lt hi; rw [e4]; omega
    · have := h.lt hj; rw [e2]; omega
    · exact absurd (e1.trans e3.symm) hij
  · rcases get_snoc hi with ⟨_, hi⟩ | ⟨rfl, hp'⟩
    · exact hc.mem i lo k es hi
    · subst hp'
      exact ⟨.inl (Nat.le_trans h.ext.1 hp), (h'.mem 0 _ _ _ rfl).2⟩

theorem R_callP {ops : Array Oper} {K : Env → Heap → Prop} {i n : Nat} {H0 : Frame} {L : List (Nat × Nat × List V)} {L' : Nat → List (Nat × Nat × List V)} (k : Nat) (es : List V) (fid : Nat) (as : List V) (x : Nat → V) (hs : fromTo i n = i :: fromTo (i + 1) n) (hd : decCall N ops T i = some (fid, as)) (hc : FineO P fid as x k es) (hO : Owns H0 H L)
    (hl : ∀ lo, L' lo = L ++ [(lo, k, es)]) (h : ∀ lo H', Owns H0 H' (L' lo) → RWs P tt N ops (fromTo (i + 1) n) (T.setO (dstAt ops i) ([], x lo)) H' K) : RWs P tt N ops (fromTo i n) T H K :=
  R_call hs hd (hc H) fun _ H' ⟨lo, e, hO'⟩ => e ▸ h lo H' (hl lo ▸ hO.join hO')

theorem nil_same {α : Type} {β : Type} {c : Prop} {l : List α} {f : List α → Option β} {r : β} (h : asrt c (f ([] ++ l)) = some r) : f l = some r := (asrtE h).2

def decBslG (tt : TT) (N : Nat) (ops : Array Oper) (T : Env) (i : Nat) : Option (Ctx × List V) := match condAt N ops T i with
  | some (ctx, .buildSlice t k parts) => match bslOp tt T ctx (.buildSlice t k parts) with
    | some xs => some (ctx, xs)
    | none => none
  | _ => none

/-- A slice literal that is not always made. -/
theorem R_bslG {ops : Array Oper} {K : Env → Heap → Prop} {i n : Nat} (ctx : Ctx) (xs : List V) (hs : fromTo i n = i :: fromTo (i + 1) n) (hd : decBslG tt N ops T i = some (ctx, xs))
    (h : RWs P tt N ops (fromTo (i + 1) n) (T.setO (dstAt ops i) (ctx, frozenOf xs)) H K) : RWs P tt N ops (fromTo i n) T H K := by
  unfold decBslG at hd
  split at hd
  · rename_i c t k parts hp
    split at hd
    · rename_i ys hb
      simp at hd; obtain ⟨rfl, rfl⟩ := hd
      exact R_effG (y := frozenOf ys) hs hp (fun _ => ⟨_, hb, .inl h⟩) (fun _ => h)
    · cases hd
  · cases hd

def decNil (tt : TT) (N : Nat) (ops : Array Oper) (T : Env) (i : Nat) : Option (Bool × Nat × (Nat → V)) := match plainAt N ops i with
  | some (.binOp .eql t x (.const (.slice none 0 0)) _) => match evalO T [] x, tt t with
    | some (.sl z n el), some ⟨.slice _, _, _, _⟩ => some (z, n, el)
    | _, _ => none
  | _ => none

/-- A slice held against nil: what comes out is not known, but that nil is empty. -/
theorem R_nil {ops : Array Oper} {K : Env → Heap → Prop} {i n : Nat} (z : Bool) (m : Nat) (el : Nat → V) (hs : fromTo i n = i :: fromTo (i + 1) n) (hd : decNil tt N ops T i = some (z, m, el))
    (h : ∀ b : Bool, (b = true → m = 0) → RWs P tt N ops (fromTo (i + 1) n) (T.setO (dstAt ops i) ([], .lit (.bool b))) H K) : RWs P tt N ops (fromTo i n) T H K := by
  unfold decNil at hd
  split at hd
  · rename_i t x _ hp
    split at hd
    · rename_i z' n' el' e q1 q2 q3 hx ht
      simp at hd; obtain ⟨rfl, rfl, rfl⟩ := hd
      exact R_eff hs hp ⟨_, _, _, _, _, _, _, hx, ht, h⟩
    · cases hd
  · cases hd

/-! ### The same, where the order is drawn -/

section drawn
variable {ops : Array Oper} {K : PE → Heap → Prop} {i n : Nat} {T : PE}

theorem D_callO {H0 : Frame} {L : List (Nat × Nat × List V)} (fid : Nat) (as : List V) (x : V) (hs : fromTo i n = i :: fromTo (i + 1) n) (hd : decCall N ops (lift T) i = some (fid, as)) (hc : Fine P fid as x) (hO : Owns H0 H L)
    (h : ∀ H', Owns H0 H' L → RD P tt N ops (fromTo (i + 1) n) (T.setO (dstAt ops i) x) H' K) : RD P tt N ops (fromTo i n) T H K :=
  D_call hs hd (hc H) fun _ H' ⟨e, hx⟩ => e ▸ h H' (hO.call hx)

theorem D_appOL {H0 : Frame} {L : List (Nat × Nat × List V)} {α : Type} {e : α → V} (xs zs : List α) (q lo k bytes : Nat) (x : V) (L' : Nat → List (Nat × Nat × List V)) (hs : fromTo i n = i :: fromTo (i + 1) n) (hd : decApp4 tt N ops (lift T) i = some (.msl k lo 0 xs.length, x, k, bytes)) (hO : Owns H0 H L) (hL : L[q]? = some (lo, k, xs.map e))
    (hy : appX k H x = some (zs.map e)) (hb : (xs.length + zs.length) * bytes ≤ 140737488355328 ∧ xs.length + zs.length ≤ 9223372036854775807) (hl : ∀ lo', L' lo' = L.set q (lo', k, (xs ++ zs).map e))
    (h : ∀ lo' H', Owns H0 H' (L' lo') → RD P tt N ops (fromTo (i + 1) n) (T.setO (dstAt ops i) (.msl k lo' 0 (xs ++ zs).length)) H' K) : RD P tt N ops (fromTo i n) T H K := by
  obtain ⟨te, hd', rfl, rfl⟩ := decApp4_spec hd
  refine D_append (es := xs.map e) hs hd' (by simp [appS, hO.at q hL]) hy (by simpa using hb.1) (by simpa using hb.2) ?_
  have := h _ _ (by rw [hl]; exact hO.app q hL (n := xs.length) ((xs ++ zs).map e))
  simpa using this

theorem D_appNL {H0 : Frame} {L : List (Nat × Nat × List V)} {α : Type} {e : α → V} (zs : List α) (el : Nat → V) (k bytes : Nat) (x : V) (L' : Nat → List (Nat × Nat × List V)) (hs : fromTo i n = i :: fromTo (i + 1) n) (hd : decApp4 tt N ops (lift T) i = some (.sl true 0 el, x, k, bytes)) (hO : Owns H0 H L)
    (hy : appX k H x = some (zs.map e)) (hb : zs.length * bytes ≤ 140737488355328 ∧ zs.length ≤ 9223372036854775807) (hl : ∀ lo', L' lo' = L ++ [(lo', k, zs.map e)])
    (h : ∀ lo' H', Owns H0 H' (L' lo') → RD P tt N ops (fromTo (i + 1) n) (T.setO (dstAt ops i) (.msl k lo' 0 zs.length)) H' K) : RD P tt N ops (fromTo i n) T H K := by
  obtain ⟨te, hd', rfl, rfl⟩ := decApp4_spec hd
  refine D_append (es := []) hs hd' rfl hy (by simpa using hb.1) (by simpa using hb.2) ?_
  have := h _ _ (by rw [hl]; exact hO.new te.size (zs.map e))
  simpa [appH] using this

theorem D_loadO {H0 : Frame} {L : List (Nat × Nat × List V)} (q lo k ix : Nat) (y x : V) (es : List V) (hs : fromTo i n = i :: fromTo (i + 1) n) (hp : (plainAt N ops i).isSome = true) (hd : decLoad tt N ops (lift T) i y = some ([], lo, ix, x)) (hO : Owns H0 H L) (hL : L[q]? = some (lo, k, es)) (hy : es[ix]? = some y)
    (h : RD P tt N ops (fromTo (i + 1) n) (T.setO (dstAt ops i) x) H K) : RD P tt N ops (fromTo i n) T H K := by
  obtain ⟨op, hop⟩ := Option.isSome_iff_exists.1 hp
  unfold decLoad at hd
  split at hd
  · rename_i ctx t p hc
    obtain ⟨o, ho, rfl, _, _, _⟩ := plainAt_spec (T := lift T) hop
    obtain ⟨o', ho', he, _, _, _⟩ := condAt_spec hc
    rw [ho] at ho'; cases ho'
    split at hd
    · rename_i l ix' o2 hev
      split at hd
      · rename_i e v ht hv
        simp at hd; obtain ⟨rfl, rfl, rfl, rfl⟩ := hd
        refine D_eff hs hop ?_
        rw [he]
        exact ⟨_, _, _, _, _, _, _, _, hev, hO.at q hL, hy, ht, hv, h⟩
      · simp at hd
    · simp at hd
  · simp at hd

theorem D_storeO {H0 : Frame} {L : List (Nat × Nat × List V)} (q lo k ix : Nat) (y y' : V) (es : List V) (L' : List (Nat × Nat × List V)) (hs : fromTo i n = i :: fromTo (i + 1) n) (hn : dstAt ops i = none) (hd : decStore tt N ops (lift T) i y = some (lo, ix, y')) (hO : Owns H0 H L) (hL : L[q]? = some (lo, k, es))
    (hy : es[ix]? = some y) (hl : L' = L.set q (lo, k, es.set ix y')) (h : ∀ H', Owns H0 H' L' → RD P tt N ops (fromTo (i + 1) n) T H' K) : RD P tt N ops (fromTo i n) T H K := by
  subst hl
  unfold decStore at hd
  split at hd
  · rename_i t p x hp
    split at hd
    · rename_i l ix' o v e hep hex ht
      split at hd
      · rename_i y'' hz hv
        simp at hd; obtain ⟨rfl, rfl, rfl⟩ := hd
        refine D_eff hs hp ?_
        rw [hn]
        exact ⟨_, _, _, _, _, _, _, _, _, hep, hex, hO.at q hL, hy, ht, hz, hv, h _ (hO.put q hL _)⟩
      · simp at hd
    · simp at hd
  · simp at hd

/-- An operation that is carried out, by its number. -/
def opAtV (N : Nat) (ops : Array Oper) (T : PE) (i : Nat) : Option Op := match ops[i]? with
  | some o => match dOk N o, guardV ops T o with
    | true, some true => some o.op
    | _, _ => none
  | none => none

theorem D_effV {op : Op} (hs : fromTo i n = i :: fromTo (i + 1) n) (hp : opAtV N ops T i = some op) (h : effW P tt (lift T) [] op H (fun x H' => RD P tt N ops (fromTo (i + 1) n) (T.setO (dstAt ops i) x) H' K)) :
    RD P tt N ops (fromTo i n) T H K := by
  rw [hs]
  unfold opAtV at hp
  split at hp
  · rename_i o ho
    split at hp
    · rename_i hd hg
      simp at hp; subst hp
      have hdst : dstAt ops i = o.dst := by simp [dstAt, ho]
      rw [hdst] at h
      exact ⟨o, ho, hd, true, hg, ⟨fun _ => .inr h, fun h => by simp at h⟩⟩
    · cases hp
  · cases hp

def decCallV (N : Nat) (ops : Array Oper) (T : PE) (i : Nat) : Option (Nat × List V) := match opAtV N ops T i with
  | some (.call ⟨.value f, args, _⟩) => match evalO (lift T) [] f, evalL (lift T) [] args.toList with
    | some (.fn (.func fid) ys cs), some xs => some (fid, ys ++ xs ++ cs)
    | _, _ => none
  | _ => none

theorem D_callV {H0 : Frame} {L : List (Nat × Nat × List V)} (fid : Nat) (as : List V) (x : V) (hs : fromTo i n = i :: fromTo (i + 1) n) (hd : decCallV N ops T i = some (fid, as)) (hc : Fine P fid as x) (hO : Owns H0 H L)
    (h : ∀ H', Owns H0 H' L → RD P tt N ops (fromTo (i + 1) n) (T.setO (dstAt ops i) x) H' K) : RD P tt N ops (fromTo i n) T H K := by
  unfold decCallV at hd
  split at hd
  · rename_i f args tys hp
    split at hd
    · rename_i ys cs xs hf hx
      simp at hd; obtain ⟨rfl, rfl⟩ := hd
      refine D_effV hs hp ?_
      refine ⟨_, xs, ys, cs, hf, hx, ?_⟩
      have := hc H
      simp only [List.append_assoc] at this ⊢
      exact this.mono fun _ H' ⟨e, hx⟩ => e ▸ h H' (hO.call hx)
    · simp at hd
  · simp at hd

def decLoadV (tt : TT) (N : Nat) (ops : Array Oper) (T : PE) (i : Nat) (y : V) : Option (Nat × Nat × V) := match opAtV N ops T i with
  | some (.load t x) => match evalO (lift T) [] x with
    | some (.lp l ix o) => match tt t, loadV tt t y o with
      | some _, some v => some (l, ix, v)
      | _, _ => none
    | _ => none
  | _ => none

theorem D_loadV {H0 : Frame} {L : List (Nat × Nat × List V)} (q lo k ix : Nat) (y x : V) (es : List V) (hs : fromTo i n = i :: fromTo (i + 1) n) (hd : decLoadV tt N ops T i y = some (lo, ix, x)) (hO : Owns H0 H L) (hL : L[q]? = some (lo, k, es)) (hy : es[ix]? = some y)
    (h : RD P tt N ops (fromTo (i + 1) n) (T.setO (dstAt ops i) x) H K) : RD P tt N ops (fromTo i n) T H K := by
  unfold decLoadV at hd
  split at hd
  · rename_i t p hp
    split at hd
    · rename_i l ix' o2 hev
      split at hd
      · rename_i e v ht hv
        simp at hd; obtain ⟨rfl, rfl, rfl⟩ := hd
        exact D_effV hs hp ⟨_, _, _, _, _, _, _, _, hev, hO.at q hL, hy, ht, hv, h⟩
      · simp at hd
    · simp at hd
  · simp at hd

/-- A test is known, either way. -/
theorem D_split {is : List Nat} {t : Nat} {e : Bool} (ht : T t = some (.lit (.bool e))) (h1 : e = true → RD P tt N ops is (T.set t (.lit (.bool true))) H K) (h2 : e = false → RD P tt N ops is (T.set t (.lit (.bool false))) H K) : RD P tt N ops is T H K := by
  cases e with
  | true => exact D_known ht rfl (h1 rfl)
  | false => exact D_known ht rfl (h2 rfl)

end drawn

end Go.Abs
